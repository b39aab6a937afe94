/- All divisions that go on from some (mestaref08.Divisions); conditions: at most four mountains. -/
import Derived.Test.YthchpoabncdicaaLastS
namespace Go.Proofs.Ythchpoabncdicaa
open Go.RowKit

theorem extsTo_len {n r : Nat} (h : ∀ cur, (exts n r cur).length ≤ 4 ^ r) (cur : List Int) : ∀ k, (extsTo n r cur k).length ≤ k * 4 ^ r
  | 0 => by simp [extsTo_zero]
  | k + 1 => by
    have ih := extsTo_len h cur k
    rw [extsTo_succ, List.length_append, Nat.add_mul]
    split
    · rw [List.length_nil]; omega
    · have := h (cur ++ [(k : Int)]); omega
theorem exts_len {n : Nat} (hn : n ≤ 4) : ∀ r cur, (exts n r cur).length ≤ 4 ^ r
  | 0, cur => by simp [exts]
  | r + 1, cur => by
    rw [exts_succ]
    have h1 := extsTo_len (exts_len hn r) cur n
    have h2 : n * 4 ^ r ≤ 4 * 4 ^ r := Nat.mul_le_mul_right _ hn
    rw [Nat.pow_succ, Nat.mul_comm (4 ^ r)]
    omega
def metTo (cur : List Int) (m : Int) (k : Nat) : Bool := (cur.take k).any (fun x => x == m)
theorem metTo_succ (cur : List Int) (m : Int) (k : Nat) (hk : k < cur.length) : metTo cur m (k + 1) = (metTo cur m k || (cur[k] == m)) := by
  rw [metTo, metTo, List.take_succ_eq_append_getElem hk, List.any_append]; simp
theorem metTo_all (cur : List Int) (m : Int) : metTo cur m cur.length = decide (m ∈ cur) := by
  rw [metTo, List.take_length]
  by_cases h : m ∈ cur
  · rw [decide_eq_true h, List.any_eq_true]; exact ⟨m, h, by simp⟩
  · rw [decide_eq_false h, List.any_eq_false]
    intro x hx
    simp only [beq_iff_eq]
    exact fun e => h (e ▸ hx)

set_option maxRecDepth 100000 in
set_option maxHeartbeats 2000000 in
theorem rdivs_c {n : Nat} (hn4 : n ≤ 4) : ∀ (r : Nat) (cur : List Int) (w : World) (v2 : Value) (A2 : Nat → Prop), Ints A2 w v2 cur → cur.length + r = n →
    Calls Try.prog 123 #[.int .i64 n, v2] w fun e w' => ∃ v', e = .returned v' ∧ Grid (fun b => A2 b ∨ w.heap.size ≤ b) w' v' (exts n r cur) ∧ Below w.heap.size w w'
  | 0, cur, w, v2, A2, h2, hl => by
    have hs2 := h2.shape
    have hl' : cur.length = n := by omega
    rw [hl'] at hs2
    obtain ⟨a2, c2, rfl, _, _⟩ := hs2
    clear hl
    have HL := Lib.hid hl'
    clear hl'
    go_enter Try.func123, Try.ntmps123
    go_wp2
    go_ret
    refine ⟨_, rfl, ⟨[.slice a2 n c2], rfl, (arr_one w 22 _).wide fun k hk _ => .inr hk, fun i a b => ?_⟩, (Below.refl _ w).alloc (Nat.le_refl _) _⟩
    have : i = 0 := by simpa using a
    subst this
    exact (h2.call ((Below.refl _ w).alloc (Nat.le_refl _) _)).wide fun k hk _ => .inl hk
  | r + 1, cur, w, v2, A2, h2, hl => by
    have ih := rdivs_c hn4 r
    have hbl : cur.length < n := by omega
    have hel : ∀ c2, (exts n r c2).length ≤ 256 := fun c2 => by
      have := exts_len hn4 r c2
      have h2 : 4 ^ r ≤ 4 ^ 4 := Nat.pow_le_pow_right (by omega) (by omega)
      omega
    have hfl : ∀ k, k ≤ 4 → (extsTo n r cur k).length ≤ 1024 := fun k hk => by
      have := extsTo_len (exts_len hn4 r) cur k
      have h2 : 4 ^ r ≤ 4 ^ 4 := Nat.pow_le_pow_right (by omega) (by omega)
      have h3 : k * 4 ^ r ≤ 4 * 4 ^ 4 := Nat.mul_le_mul hk h2
      omega
    rw [exts_succ]
    obtain ⟨a2, c2, rfl, _, _⟩ := h2.shape
    have nb : ((cur.length : Int) == (n : Int)) = false := by simp; omega
    have IH := Lib.hid ih
    have HL := Lib.hid hl
    have HEL := Lib.hid hel
    have HFL := Lib.hid hfl
    have hb4 : cur.length ≤ 4 := by omega
    clear ih hl hel hfl
    go_enter Try.func123, Try.ntmps123
    go_wp2
    go_loopw [5, 6] (fun s5 s6 wr => ∃ (k : Nat) (out : List (List Int)), k ≤ n ∧ s6 = .int .i64 k ∧ out = extsTo n r cur k ∧ GO (fun b => w.heap.size ≤ b) w.heap.size wr s5 out ∧ Below w.heap.size w wr) (fun _ s6 _ => n - (intOf s6).toNat)
    case atStart => exact ⟨0, [], Nat.zero_le _, rfl, rfl, GO.nil _ _ _, Below.refl _ _⟩
    case round =>
      obtain ⟨k, out, hk, rfl, hout, hGo, hB⟩ := hrel
      have hol : out.length ≤ 2000 := by
        have h := HFL.out k (by omega)
        rw [← hout] at h
        omega
      have HOUT := Lib.hid hout
      have hsz := hB.size
      clear hout
      by_cases hlt : k < n
      · go_wp2_with fail
        go_loopw [7, 8] (fun s7 s8 wx => ∃ j : Nat, j ≤ cur.length ∧ s8 = .int .i64 j ∧ s7 = .bool (metTo cur k j) ∧ wr = wx) (fun _ s8 _ => cur.length - (intOf s8).toNat)
        case atStart => exact ⟨0, Nat.zero_le _, rfl, rfl, rfl⟩
        case round =>
          obtain ⟨j, hj, rfl, rfl, rfl⟩ := hrel
          by_cases hjl : j < cur.length
          · have hms := metTo_succ cur k j hjl
            have h2r := h2.call hB
            obtain ⟨b2, o2, rfl, -, -, hc2⟩ := h2r.addr (by omega)
            have q1 := hc2 j hjl
            obtain ⟨x, hx⟩ : ∃ x, x = cur[j] := ⟨_, rfl⟩
            rw [← hx] at q1 hms
            cases hmt : metTo cur k j with
            | true =>
              rw [hmt, Bool.true_or] at hms
              have HMS := Lib.hid hms
              clear hms hmt hx
              go_wp2_with fail
              go_roundw
              case rel => exact ⟨j + 1, by omega, by go_num, by rw [HMS.out], by first | trivial | rfl⟩
              case measure => simp [intOf]; omega
            | false =>
              rw [hmt, Bool.false_or] at hms
              have HMS := Lib.hid hms
              clear hms hmt hx hc2
              go_wp2_with fail
              go_roundw
              case rel => exact ⟨j + 1, by omega, by go_num, by rw [HMS.out], by first | trivial | rfl⟩
              case measure => simp [intOf]; omega
          · obtain rfl : j = cur.length := by omega
            rw [metTo_all]
            by_cases hmem : (k : Int) ∈ cur
            · rw [decide_eq_true hmem]
              have HMEM := Lib.hid hmem
              clear hmem
              go_wp2_with fail
              go_roundw
              case rel =>
                refine ⟨k + 1, out, by omega, by go_num, ?_, hGo, hB⟩
                rw [HOUT.out, extsTo_succ, if_pos HMEM.out, List.append_nil]
              case measure => simp [intOf]; omega
            · rw [decide_eq_false hmem]
              have HMEM := Lib.hid hmem
              clear hmem
              have hsl2 : cur.length ≤ 1000000 := by omega
              have h2r := h2.call hB
              have hBa := (Below.refl wr.heap.size wr).alloc (Nat.le_refl _) (.cells #[] 3)
              have h2a := h2r.call hBa
              have hoe := own_lit wr 3 1 #[] 0 rfl (by omega)
              go_wp2_with (at_builtin; first | (refine wpList_append_arr rfl _ _ 22 rfl 3 (.int .i64 0) 1 8 Try.underlying22 Try.info3 rfl (by decide) (by decide) (by simp) hoe rfl h2a rfl (by rw [I64_len, Nat.mul_one]) (ints_one cur) (by omega) ?_; intro v1 w2 hown1 hT1; rw [List.nil_append, Nat.zero_add] at hown1; have hB2 : Below wr.heap.size wr w2 := hT1.below hoe hBa (by simp); have hB2s := hB2.size; obtain ⟨ax1, cx1, rfl⟩ := own_slice hown1; have hob2 := hown1.alloc (.cells #[.int .i64 (k : Int)] 3); have hla := arr_one w2 3 (.int .i64 (k : Int)); clear hoe hBa h2a hT1) | (refine wpList_append_arr rfl _ _ 22 rfl 3 (.int .i64 0) 1 8 Try.underlying22 Try.info3 rfl (by decide) (by decide) (by simp; omega) hob2 rfl hla rfl rfl (one_int _) (by omega) ?_; intro vc w3 hown hT1))
              have hbn : cur.length + 1 ≤ 4 := by omega
              have hown : Own wr.heap.size w3 3 1 vc (cur.length + 1) (I64 (cur ++ [(k : Int)])) := by rw [I64_append]; exact hown
              have hB3 : Below wr.heap.size wr w3 := hT1.below hob2 (hB2.alloc (by omega) _) (by simp; omega)
              have hih := IH.out (cur ++ [(k : Int)]) w3 vc _ (Own.ints hown) (by have := HL.out; simp; omega)
              obtain ⟨S, hSS⟩ : ∃ S, S = exts n r (cur ++ [(k : Int)]) := ⟨_, rfl⟩
              rw [← hSS] at hih
              have hSl : S.length ≤ 256 := by rw [hSS]; exact HEL.out _
              have HSS := Lib.hid hSS
              have HIH := Lib.hid hih
              clear hSS hih hown hT1 hob2 hB2 hB2s hown1 hla
              refine HIH.out.mono ?_
              rintro e w4 ⟨vd, rfl, hG, hB4⟩
              have hB4r := hB3.trans (hB4.mono hB3.size)
              have hs3 := hB3.size
              have hs4 := hB4.size
              have hvl : ∀ q, u5.ownBlock = some q → q < wr.heap.size := fun q hq => hGo.lt q hq
              obtain ⟨us, hu, hArr, hus⟩ := hG
              obtain ⟨vs2, hv1, ho, hrows⟩ := hGo.call hB4r
              have hr : ∀ i (a : i < us.length) (b : i < S.length), Ints (fun q => w.heap.size ≤ q ∧ u5.ownBlock ≠ some q) w4 us[i] S[i] := fun i a b => (hus i a b).wide fun q hq _ => ⟨by omega, fun e => by have := hvl q e; omega⟩
              obtain ⟨ad, cd, rfl⟩ : ∃ ad cd, vd = .slice ad S.length cd := by
                obtain ⟨ad, cd, he, _⟩ := hArr
                exact ⟨ad, cd, he⟩
              obtain ⟨ax, cx, rfl⟩ := own_slice ho
              have hone := grid_one hu hus
              clear HIH
              go_wp2_with (at_builtin; refine wpList_append_arr rfl _ _ 35 rfl 22 (.slice none 0 0) 1 24 Try.under35 Try.info22 rfl (by decide) (by decide) (by omega) ho rfl hArr rfl (by rw [hu, Nat.mul_one]) hone (by omega) ?_; intro ve w5 hown2 hT2)
              have hGn := gputs hv1 hrows hu hr hown2 hT2
              have hB5 : Below w.heap.size w w5 := hT2.below ho (hB.trans (hB4r.mono hsz)) (by omega)
              go_roundw
              case rel =>
                refine ⟨k + 1, _, by omega, by go_num, ?_, hGn, hB5⟩
                rw [HOUT.out, extsTo_succ, if_neg HMEM.out, HSS.out]
              case measure => simp [intOf]; omega
      · obtain rfl : k = n := by omega
        have hfin := HOUT.out
        subst hfin
        go_wp2
        go_ret
        refine ⟨_, rfl, ?_, hB⟩
        exact hGo.grid (fun b hb => Or.inr hb) (fun b hb => Or.inr hb)

end Go.Proofs.Ythchpoabncdicaa
