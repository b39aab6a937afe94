/- EdgeMet: what its walk hands back; conditions: the argument reads as a list of numbers. -/
import Derived.Test.YtgdifckmjdjcpaaSur
import Derived.Test.YtgdifckmjdjcpaaEof
namespace Go.Proofs.Ytgdifckmjdjcpaa
open Go.RowKit

theorem mem_castN {l : List Nat} {i : Nat} : (i : Int) ∈ castN l ↔ i ∈ l := by
  unfold castN
  rw [List.mem_map]
  constructor
  · rintro ⟨j, h1, h2⟩
    have : j = i := by omega
    exact this ▸ h1
  · intro h
    exact ⟨i, h, rfl⟩
theorem mem_maskL {g i : Nat} (hi : i < 16) : i ∈ maskL g ↔ g.testBit i = true := by
  unfold maskL
  rw [List.mem_filter, List.mem_range]
  exact ⟨fun h => h.2, fun h => ⟨hi, h⟩⟩
/-- The law of wrong claims and a clash. -/
theorem met_law {x : Edg} (hx : x.Ok) : (clashX x = ([], 11) ∧ wrongX x = ([], 0)) ∨ (∃ K L : List Nat, clashX x = (K, 0) ∧ wrongX x = (L, 0) ∧ L ≠ [] ∧ (castN K).any (fun z => decide (z ∈ castN L)) = true) := by
  have hck : ¬ checkX x ≠ 0 := not_not_intro (checkX_zero.2 hx)
  have hm := hx.m
  obtain ⟨g, hg⟩ := wrong_some hx
  cases hk : clashF x with
  | none =>
    have ht := (clash_none hx).1 hk
    have h0 := wrong_zero.2 ht
    refine .inl ⟨?_, ?_⟩
    · unfold clashX; rw [if_neg hck, hk]
    · unfold wrongX; rw [if_neg hck, h0]; rfl
  | some k =>
    obtain ⟨i, hi, h1, h2⟩ := wrong_meets hx hg hk
    have m1 := (mem_maskL (g := g) (show i < 16 by omega)).2 h1
    have m2 := (mem_maskL (g := k) (show i < 16 by omega)).2 h2
    refine .inr ⟨maskL k, maskL g, ?_, ?_, ?_, ?_⟩
    · unfold clashX; rw [if_neg hck, hk]
    · unfold wrongX; rw [if_neg hck, hg]; rfl
    · intro h; rw [h] at m1; cases m1
    · rw [List.any_eq_true]
      exact ⟨(i : Int), mem_castN.2 m2, decide_eq_true (mem_castN.2 m1)⟩

set_option maxRecDepth 100000 in
set_option maxHeartbeats 2000000 in
theorem edgeMet_c {A : Nat → Prop} {w : World} {v : Value} {l : List Int} (h : Ints A w v l) : Calls Try.prog 10 #[v] w fun e w' => e = .returned (.bool true) ∧ Below w.heap.size w w' := by
  obtain ⟨a0, c0, rfl, _, _⟩ := h.shape
  go_enter Try.func10, Try.ntmps10
  go_wp2_with fail
  refine (newHand_c h).mono ?_
  rintro e w1 ⟨rfl, hH1, hB1⟩
  go_wp2_with fail
  refine (edgeOf_c hH1 (by omega) (pts := 4) (cl := 7) (by omega) (by omega)).mono ?_
  rintro e w2 ⟨⟨x, vx, rfl, hx, hx4, hx7, hO2⟩, -, hG2⟩
  have hB2 := bhand hB1 hG2 (Nat.le_refl _)
  obtain ⟨ax, cx, rfl⟩ := own_slice hO2
  obtain ⟨w3, hw3⟩ : ∃ w3, w3 = w2.alloc (.cells #[.int .i64 x.points, .int .i64 x.bend, .slice ax x.claims.length cx] 24) := ⟨_, rfl⟩
  obtain ⟨bx, hbx⟩ : ∃ b, b = w2.heap.size := ⟨_, rfl⟩
  have hX3 : Blk bx #[.int .i64 x.points, .int .i64 x.bend, .slice ax x.claims.length cx] 24 w3 := by rw [hw3, hbx]; exact Blk.new _ _ _
  have hB3 : Below w.heap.size w w3 := by rw [hw3]; exact bal2 hB2
  have h3 : ClsM (fun q => w1.heap.size ≤ q) w3 (.slice ax x.claims.length cx) x.claims := by rw [hw3]; exact (hO2.cls).call ((Below.refl _ _).alloc (Nat.le_refl _) _)
  go_upto_region 2 with fail
  rw [← hw3, ← hbx]
  clear hw3 hbx hO2 hG2 hH1 hB1 hB2
  have c0 := hX3.cell 0
  have c1 := hX3.cell 1
  have c2 := hX3.cell 2
  have hw := wrong_c h3
  have HW := Lib.hid hw
  clear hw
  go_wp2_with fail
  refine HW.out.mono ?_
  rintro e w4 ⟨vl, rfl, hL4, hB4⟩
  have hX4 := hX3.call hB4
  have h4 := h3.call hB4
  have hBw4 := bnx hB3 hB4
  clear c0 c1 c2 HW hX3 h3 hB4 hB3
  have c0 := hX4.cell 0
  have c1 := hX4.cell 1
  have c2 := hX4.cell 2
  have hk := clash_c h4
  have HK := Lib.hid hk
  clear hk
  obtain ⟨al, cl, rfl, _, _⟩ := hL4.shape
  go_wp2_with fail
  refine HK.out.mono ?_
  rintro e w5 ⟨vk, rfl, hK5, hB5⟩
  have hL5 := hL4.call hB5
  have hBw5 := bnx hBw4 hB5
  obtain ⟨ak, ck, rfl, _, _⟩ := hK5.shape
  clear c0 c1 c2 HK hX4 h4 hB5 hBw4 hL4
  rcases met_law hx with ⟨e1, e2⟩ | ⟨K, L, e1, e2, hne, hany⟩
  · rw [e1] at hK5 ⊢
    rw [e2] at hL5 ⊢
    have hlk : (castN ([] : List Nat)).length = 0 := rfl
    go_wp2_with fail
    refine wp_loop_rounds 1 ?_
    rw [rounds_succ]
    go_wp2_with fail
    refine (surveyed_c _).mono ?_
    rintro e w6 ⟨rfl, hB6⟩
    go_wp2_with fail
    go_ret
    exact ⟨rfl, bnx hBw5 hB6⟩
  · rw [e1] at hK5 ⊢
    rw [e2] at hL5 ⊢
    have hlp : 0 < (castN L).length := by
      unfold castN
      rw [List.length_map]
      exact List.length_pos_iff.2 hne
    have hb1 : (((castN L).length : Int) == 0) = false := by rw [beq_eq_false_iff_ne]; omega
    obtain ⟨KK, hKK⟩ : ∃ KK, KK = castN K := ⟨_, rfl⟩
    obtain ⟨LL, hLL⟩ : ∃ LL, LL = castN L := ⟨_, rfl⟩
    simp only [← hKK, ← hLL] at hK5 hL5 hany hlp hb1 ⊢
    have HANY := Lib.hid hany
    have hkl := hK5.len
    have hll := hL5.len
    clear hKK hLL hany hne e1 e2
    go_wp2_with fail
    go_loopw [8, 9] (fun vb vi wr => ∃ (j : Nat) (b : Bool), j ≤ KK.length ∧ vi = .int .i64 j ∧ vb = .bool b ∧ Hid (b = (KK.take j).any (fun z => decide (z ∈ LL))) ∧ Qt w5 wr) (fun _ vi _ => KK.length - (intOf vi).toNat)
    case atStart => exact ⟨0, false, Nat.zero_le _, rfl, rfl, Lib.hid (by simp), Qt.refl _⟩
    case round =>
      obtain ⟨j, b, hj, rfl, rfl, HB, hQ⟩ := hrel
      have hKr := hK5.qt hQ
      have hLr := hL5.qt hQ
      by_cases hlt : j < KK.length
      · obtain ⟨gk, ok, rfl, _, _, _⟩ := hKr.addr (by omega)
        have hc := hKr.cell j hlt
        have hsn := List.take_succ_eq_append_getElem hlt
        have HSN := Lib.hid hsn
        clear hsn
        cases b with
        | true =>
          go_wp2_with fail
          go_roundw
          case rel => exact ⟨j + 1, true, by omega, by go_num, rfl, Lib.hid (by rw [HSN.out, List.any_append, ← HB.out]; rfl), hQ⟩
          case measure => simp [intOf]; omega
        | false =>
          have hpl := place_c KK[j] hLr
          have HPL := Lib.hid hpl
          clear hpl
          by_cases hmem : KK[j] ∈ LL
          · have hp0 := (placeOf_nonneg LL KK[j]).2 hmem
            go_wp2_with fail
            refine HPL.out.mono ?_
            rintro e w6 ⟨rfl, hq6⟩
            go_wp2_with fail
            go_roundw
            case rel => exact ⟨j + 1, true, by omega, by go_num, rfl, Lib.hid (by rw [HSN.out, List.any_append]; simp [hmem]), hQ.trans hq6⟩
            case measure => simp [intOf]; omega
          · have hp0 : decide (0 ≤ placeOf LL KK[j]) = false := decide_eq_false fun h => hmem ((placeOf_nonneg LL KK[j]).1 h)
            go_wp2_with fail
            refine HPL.out.mono ?_
            rintro e w6 ⟨rfl, hq6⟩
            go_wp2_with fail
            go_roundw
            case rel => exact ⟨j + 1, false, by omega, by go_num, rfl, Lib.hid (by rw [HSN.out, List.any_append, ← HB.out]; simp [hmem]), hQ.trans hq6⟩
            case measure => simp [intOf]; omega
      · obtain rfl : j = KK.length := by omega
        have hb : b = true := by rw [HB.out, List.take_length]; exact HANY.out
        subst hb
        go_wp2_with fail
        refine (surveyed_c _).mono ?_
        rintro e w6 ⟨rfl, hB6⟩
        go_wp2_with fail
        go_ret
        exact ⟨rfl, bnx (hBw5.trans (hQ.below _)) hB6⟩

end Go.Proofs.Ytgdifckmjdjcpaa
