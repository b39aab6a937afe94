/- The reference's small functions on texts; conditions: as said at each. -/
import Derived.Test.YtbpfhoihfoojfaaGreatDoorTx1
namespace Go.Proofs.YtbpfhoihfoojfaaGreatDoor
open Go.RowKit

theorem wrap_c (x : Int) (hx : -9223372036854775808 ≤ x ∧ x ≤ 9223372036854775807) (n : Nat) (hn : 1 ≤ n) (hn2 : n ≤ 1000000) (w : World) :
    Calls Tryz.prog 36 #[.int .i64 x, .int .i64 n] w fun e w' => (∃ k : Nat, k < n ∧ e = .returned (.int .i64 k)) ∧ w' = w := by
  have b1 : decide ((n : Int) < 1) = false := decide_eq_false (by omega)
  have h1 := Int.tmod_lt_of_pos x (show (0 : Int) < n by omega)
  have h2 := Int.lt_tmod_of_pos x (show (0 : Int) < n by omega)
  have hx1 := hx.1
  have hx2 := hx.2
  have hn0 : ¬ n = 0 := by omega
  by_cases h0 : Int.tmod x n < 0
  · go_enter Tryz.func36, Tryz.ntmps36
    go_wp2_with fail
    go_ret
    exact ⟨⟨(Int.tmod x n + n).toNat, by omega, ret_int (by omega)⟩, rfl⟩
  · go_enter Tryz.func36, Tryz.ntmps36
    go_wp2_with fail
    go_ret
    exact ⟨⟨(Int.tmod x n).toNat, by omega, ret_int (by omega)⟩, rfl⟩

/-- Words as values. -/
def SL (ws : List (List UInt8)) : List Value := ws.map fun x => .string (str x)
theorem SL_append (a b : List (List UInt8)) : SL (a ++ b) = SL a ++ SL b := List.map_append
theorem SL_len (a : List (List UInt8)) : (SL a).length = a.length := List.length_map ..
theorem one_str (s : ByteArray) : ∀ u ∈ [Value.string s], u.oneCell' = true := by
  intro u hu
  rw [List.mem_singleton] at hu
  subst hu
  rfl
theorem Tryz.info9 : (Tryz.prog.info? 9).map (fun i => (i.zero, i.size, i.bytes)) = some (some (.string ⟨#[]⟩), 1, 16) := by kernel_rfl
theorem arr_words {A : Nat → Prop} {w : World} {v : Value} {ws : List (List UInt8)} (h : Arr A w v ws.length (SL ws)) (hne : ws ≠ []) : ∃ b off cap, v = .slice (some ⟨b, off, none⟩) ws.length cap ∧ A b ∧ SW b off ws w := by
  obtain ⟨ao, cap, rfl, hc, hcm, hd⟩ := h
  rcases hd with hd | ⟨b, off, rfl, hA, hlt, hcell⟩
  · exact absurd (by have := congrArg List.length hd; rw [SL_len] at this; exact List.length_eq_zero_iff.1 (by simpa using this)) hne
  · exact ⟨b, off, cap, rfl, hA, hlt, fun j hj => hcell j _ (by rw [SL, List.getElem?_map, List.getElem?_eq_getElem hj]; rfl)⟩
theorem str_ext (s : List UInt8) (f k : Nat) : (str s).extract f k = str ((s.drop f).take (k - f)) := by
  apply ByteArray.ext
  rw [ByteArray.data_extract]
  apply Array.ext'
  simp [str, List.extract_eq_drop_take']
theorem str_at {s : List UInt8} {k : Nat} (h : k < (str s).size) : (str s)[k] = s[k]'(by rw [← str_size]; exact h) := rfl

/-- Cut so far: the pieces behind which the byte stood, and where the next one begins. -/
theorem cutL_split {c : UInt8} {s : List UInt8} {k f : Nat} {ls : List (List UInt8)} (hk : k < s.length) (hf : f ≤ k) (hm : c ∉ (s.drop f).take (k - f)) (hc : s[k] = c) (h : cutL c s = ls ++ cutL c (s.drop f)) :
    cutL c s = (ls ++ [(s.drop f).take (k - f)]) ++ cutL c (s.drop (k + 1)) := by
  have e : s.drop f = (s.drop f).take (k - f) ++ c :: s.drop (k + 1) := by
    conv => lhs; rw [← List.take_append_drop (k - f) (s.drop f)]
    rw [List.drop_drop, show f + (k - f) = k by omega, List.drop_eq_getElem_cons hk, hc]
  rw [h, e, cutL_app _ hm, ← e, List.append_assoc]
  rfl
theorem piece_more {c : UInt8} {s : List UInt8} {k f : Nat} (hk : k < s.length) (hf : f ≤ k) (hm : c ∉ (s.drop f).take (k - f)) (hc : s[k] ≠ c) : c ∉ (s.drop f).take (k + 1 - f) := by
  rw [show k + 1 - f = (k - f) + 1 by omega, List.take_succ_eq_append_getElem (by rw [List.length_drop]; omega)]
  intro h
  rcases List.mem_append.1 h with h | h
  · exact hm h
  · rw [List.mem_singleton, List.getElem_drop] at h
    exact hc (by rw [h]; congr 1; omega)

set_option maxRecDepth 100000 in
theorem split_r (c : UInt8) (s : List UInt8) (w : World) (hs : s.length ≤ 100000) :
    Calls Tryz.prog 39 #[.string (str s), .int .u8 c.toNat] w fun e w' => ∃ v, e = .returned v ∧ Own w.heap.size w' 9 1 v (cutL c s).length (SL (cutL c s)) ∧ Below w.heap.size w w' := by
  have hz := str_size s
  go_enter Tryz.func39, Tryz.ntmps39
  go_wp2_with fail
  go_loopw [5, 6, 7] (fun vo vf vi wr => ∃ (k f : Nat) (ls : List (List UInt8)), k ≤ s.length ∧ f ≤ k ∧ vi = .int .i64 k ∧ vf = .int .i64 f ∧ ls.length ≤ k ∧ Hid (c ∉ (s.drop f).take (k - f)) ∧ Hid (cutL c s = ls ++ cutL c (s.drop f)) ∧ Own w.heap.size wr 9 1 vo ls.length (SL ls) ∧ Below w.heap.size w wr) (fun _ _ vi _ => s.length - (intOf vi).toNat)
  case atStart => exact ⟨0, 0, [], Nat.zero_le _, Nat.le_refl _, rfl, rfl, Nat.le_refl _, Lib.hid (by simp), Lib.hid rfl, Own.nil, Below.refl _ _⟩
  case round =>
    obtain ⟨k, f, ls, hk, hf, rfl, rfl, hls, HM, HC, hO, hB⟩ := hrel
    obtain ⟨av, cv, rfl⟩ := own_slice hO
    have hwz := hB.size
    by_cases hlt : k < s.length
    · have hx : (str s)[k]'(by rw [str_size]; exact hlt) = s[k] := rfl
      obtain ⟨x, hxd⟩ : ∃ x, x = s[k] := ⟨_, rfl⟩
      rw [← hxd] at hx
      have HX := Lib.hid hxd
      clear hxd
      by_cases hc : x = c
      · have he : ((x.toNat : Int) == (c.toNat : Int)) = true := by rw [hc]; simp
        obtain ⟨p, hp⟩ : ∃ p, p = (s.drop f).take (k - f) := ⟨_, rfl⟩
        have hse : (str s).extract f k = str p := by rw [hp]; exact str_ext s f k
        have HP := Lib.hid hp
        have HXC := Lib.hid hc
        clear hp hc
        have hO2 := hO.alloc (.cells #[.string (str p)] 9)
        go_wp2_with (at_builtin; go_loud (refine wpList_append_arr rfl _ _ 34 rfl 9 (.string ⟨#[]⟩) 1 16 Tryz.underlying34 Tryz.info9 rfl (by decide) (by decide) (by simp; omega) hO2 rfl (arr_one wr 9 (.string (str p))) rfl rfl (one_str _) (by omega) ?_); intro v9 w9 hown hT9)
        have hB9 := hT9.below2 (B' := w.heap.size) hO2 (hB.alloc hwz _) (by simp; omega) (Nat.le_refl _)
        go_roundw
        case rel =>
          refine ⟨k + 1, k + 1, ls ++ [p], by omega, Nat.le_refl _, by go_num, by go_num, by simp; omega, Lib.hid (by simp), Lib.hid ?_, ?_, hB9⟩
          · rw [HP.out]
            exact cutL_split hlt hf HM.out (by rw [← HX.out]; exact HXC.out) HC.out
          · rw [SL_append, List.length_append]
            exact hown
        case measure => simp [intOf]; omega
      · have he : ((x.toNat : Int) == (c.toNat : Int)) = false := by
          rw [beq_eq_false_iff_ne]
          intro e
          exact hc (UInt8.toNat_inj.1 (by omega))
        have HXC := Lib.hid hc
        clear hc
        go_wp2_with fail
        go_roundw
        case rel => exact ⟨k + 1, f, ls, by omega, by omega, by go_num, rfl, by omega, Lib.hid (piece_more hlt hf HM.out (by rw [← HX.out]; exact HXC.out)), HC, hO, hB⟩
        case measure => simp [intOf]; omega
    · obtain rfl : k = s.length := by omega
      obtain ⟨p, hp⟩ : ∃ p, p = s.drop f := ⟨_, rfl⟩
      have htk : (s.drop f).take (s.length - f) = p := by rw [hp]; exact List.take_of_length_le (by simp)
      have hse : (str s).extract f s.length = str p := by rw [str_ext, htk]
      have hfin : cutL c s = ls ++ [p] := by
        rw [HC.out]
        have := HM.out
        rw [htk] at this
        rw [← hp, cutL_none this]
      have HF := Lib.hid hfin
      clear hp htk hfin
      have hO2 := hO.alloc (.cells #[.string (str p)] 9)
      go_wp2_with (at_builtin; go_loud (refine wpList_append_arr rfl _ _ 34 rfl 9 (.string ⟨#[]⟩) 1 16 Tryz.underlying34 Tryz.info9 rfl (by decide) (by decide) (by simp; omega) hO2 rfl (arr_one wr 9 (.string (str p))) rfl rfl (one_str _) (by omega) ?_); intro v9 w9 hown hT9)
      have hB9 := hT9.below2 (B' := w.heap.size) hO2 (hB.alloc hwz _) (by simp; omega) (Nat.le_refl _)
      go_ret
      refine ⟨_, rfl, ?_, hB9⟩
      rw [HF.out, SL_append, List.length_append]
      exact hown

end Go.Proofs.YtbpfhoihfoojfaaGreatDoor
