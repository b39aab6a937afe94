/- The numbers of a text's words (lots), which panic where a word is none; conditions: the library's error variable holds an error or nil. -/
import Derived.Test.YtmlikgjfpmjdcaaGreatDoorA3
import Derived.Test.YtmlikgjfpmjdcaaGreatDoorBld
import Derived.Test.YtmlikgjfpmjdcaaGreatDoorRdQ
import Derived.WalkLawsBesides
import Derived.Lib.AtoiErrMem
namespace Go.Proofs.YtmlikgjfpmjdcaaGreatDoor
open Go.RowKit

/-- The panic of a line that is not as said. -/
abbrev badP (n : Int) : Ending := .panicked [{ v := .iface 114 (.agg #[.int .i64 n]), recovered := false }]
/-- The library's variable. -/
def EV (w : World) : Prop := ∃ ev, w.cell? ⟨2, 0, none⟩ = some ev ∧ (ev = .nilIface ∨ ∃ te pe, ev = .iface te pe)
theorem parse_c (s : List UInt8) (h1 : s.length = 1 ∨ (s.length = 2 ∧ s[0]? ≠ some 48)) (w : World) (hE : EV w) :
    Calls Tryz.prog 80 #[.string (str s), .int .i64 10, .int .i64 8] w fun e w' => ((∃ u : Nat, numL s = some (u : Int) ∧ u < 100 ∧ e = .returned (.tuple #[.int .u64 u, .nilIface])) ∨ (numL s = none ∧ ∃ x t p, e = .returned (.tuple #[.int .u64 x, .iface t p]))) ∧ Below w.heap.size w w' := by
  obtain ⟨ev, hv, hev⟩ := hE
  have hl : s.length ≤ 2 := by omega
  have hz : (str s).size = s.length := str_size s
  have hd : (str s).data.toList = s := rfl
  rcases parse_numL h1 with ⟨u, hn, hp⟩ | ⟨hn, hp⟩
  · have hu := (numL_some hn).2.1
    refine (Tryz.strconv_ParseUint_10_at8_ok (str s) (by omega) u (by rw [hd]; exact hp) w).mono ?_
    rintro e w' ⟨rfl, rfl | rfl⟩
    · exact ⟨.inl ⟨u, hn, by omega, rfl⟩, Below.refl _ _⟩
    · exact ⟨.inl ⟨u, hn, by omega, rfl⟩, Lib.bytesWorld_below _ _ _⟩
  · refine (Any.strconv_ParseUint_10_at8_syntax Tryz.laysPu14 (str s) (by omega) (by rw [hd]; exact hp) ev w hv hev).mono ?_
    rintro e w' ⟨N, rfl, _, _, hB⟩
    exact ⟨.inr ⟨hn, _, _, _, rfl⟩, hB⟩

set_option maxRecDepth 100000 in
set_option maxHeartbeats 1000000 in
theorem number_c (n : Int) (s : List UInt8) (w : World) (hE : EV w) (h2 : 3 ≤ w.heap.size) (hs : s.length ≤ 100000) :
    Calls Tryz.prog 66 #[.agg #[.int .i64 n], .string (str s)] w fun e w' => ((∃ k, numL s = some k ∧ e = .returned (.int .i64 k)) ∨ (numL s = none ∧ e = badP n)) ∧ Below w.heap.size w w' := by
  obtain ⟨w1, hw1⟩ : ∃ w1, w1 = w.alloc (.cells #[.int .i64 n] 114) := ⟨_, rfl⟩
  obtain ⟨b1, hb1⟩ : ∃ b, b = w.heap.size := ⟨_, rfl⟩
  have hX1 : Blk b1 #[.int .i64 n] 114 w1 := by rw [hw1, hb1]; exact Blk.new _ _ _
  have hB1 : Below w.heap.size w w1 := by rw [hw1]; exact (Below.refl _ w).alloc (Nat.le_refl _) _
  have hE1 : EV w1 := by
    obtain ⟨ev, hv, hev⟩ := hE
    refine ⟨ev, ?_, hev⟩
    rw [← hv]
    exact hB1.cell (p := ⟨2, 0, none⟩) (show 2 < w.heap.size by omega)
  have hz := str_size s
  by_cases hl2 : s.length = 2
  · obtain ⟨a, b, rfl⟩ : ∃ a b, s = [a, b] := by
      match s, hl2 with
      | [a, b], _ => exact ⟨a, b, rfl⟩
    by_cases ha : a = 48
    · subst ha
      have hn : numL [48, b] = none := by simp [numL]
      have hb : ((48 : UInt8).toNat : Int) = 48 := rfl
      unfold str
      go_enter Tryz.func66, Tryz.ntmps66
      go_upto_region 1 with fail
      rw [← hw1, ← hb1]
      clear hw1 hb1
      have c0 := hX1.cell 0
      go_wp2_with fail
      exact ⟨rfl, .inr ⟨hn, rfl⟩, hB1⟩
    · have h48 : ((((⟨#[a, b]⟩ : ByteArray)[0]'(Nat.zero_lt_succ 1)).toNat : Int) == 48) = false := by
        show ((a.toNat : Int) == 48) = false
        rw [beq_eq_false_iff_ne]
        intro e
        exact ha (by rw [← UInt8.toNat_inj]; have : a.toNat = 48 := by omega
                     rw [this]; rfl)
      have hpar := parse_c [a, b] (.inr ⟨rfl, by simpa using ha⟩) w1 hE1
      unfold str at hpar ⊢
      have HP := Lib.hid hpar
      clear hpar
      go_enter Tryz.func66, Tryz.ntmps66
      go_upto_region 1 with fail
      rw [← hw1, ← hb1]
      clear hw1 hb1
      have c0 := hX1.cell 0
      go_wp2_with fail
      refine HP.out.mono ?_
      rintro e w2 ⟨(⟨u, hn, hu, rfl⟩ | ⟨hn, x, t, p, rfl⟩), hB2⟩
      · go_wp2_with fail
        go_ret
        exact ⟨.inl ⟨_, hn, rfl⟩, bnw hB1 hB2⟩
      · clear c0
        have c0 := (hX1.call hB2).cell 0
        go_wp2_with fail
        exact ⟨rfl, .inr ⟨hn, rfl⟩, bnw hB1 hB2⟩
  · by_cases hl1 : s.length = 1
    · obtain ⟨a, rfl⟩ : ∃ a, s = [a] := by
        match s, hl1 with
        | [a], _ => exact ⟨a, rfl⟩
      have hpar := parse_c [a] (.inl rfl) w1 hE1
      unfold str at hpar ⊢
      have HP := Lib.hid hpar
      clear hpar
      go_enter Tryz.func66, Tryz.ntmps66
      go_upto_region 1 with fail
      rw [← hw1, ← hb1]
      clear hw1 hb1
      have c0 := hX1.cell 0
      go_wp2_with fail
      refine HP.out.mono ?_
      rintro e w2 ⟨(⟨u, hn, hu, rfl⟩ | ⟨hn, x, t, p, rfl⟩), hB2⟩
      · go_wp2_with fail
        go_ret
        exact ⟨.inl ⟨_, hn, rfl⟩, bnw hB1 hB2⟩
      · clear c0
        have c0 := (hX1.call hB2).cell 0
        go_wp2_with fail
        exact ⟨rfl, .inr ⟨hn, rfl⟩, bnw hB1 hB2⟩
    · have hn : numL s = none := by
        match s, hl1, hl2 with
        | [], _, _ => rfl
        | a :: b :: c :: r, _, _ => rfl
      have e1 : ((s.length : Int) == 2) = false := by rw [beq_eq_false_iff_ne]; omega
      have e2 : ((s.length : Int) == 1) = false := by rw [beq_eq_false_iff_ne]; omega
      go_enter Tryz.func66, Tryz.ntmps66
      go_upto_region 1 with fail
      rw [← hw1, ← hb1]
      clear hw1 hb1
      have c0 := hX1.cell 0
      go_wp2_with fail
      exact ⟨rfl, .inr ⟨hn, rfl⟩, hB1⟩

end Go.Proofs.YtmlikgjfpmjdcaaGreatDoor
