/- All lists of places (mestalaw08.shared): the contract; conditions: at most four villages, at most ten places. -/
import Derived.Test.YthchpoabncdicaaLastP
import Derived.Test.YthchpoabncdicaaOrd
import Derived.Test.YthchpoabncdicaaLSwaps
namespace Go.Proofs.Ythchpoabncdicaa
open Go.RowKit

def sharedL (vs : List Vil) : Nat → List Int → Nat → List (List Int)
  | 0, begun, P => if P = 0 then [begun] else []
  | m + 1, begun, P => (List.range (min P (her vs begun.length).toNat + 1)).flatMap fun (n : Nat) => sharedL vs m (begun ++ [(n : Int)]) (P - n)
theorem flat_len {f : Nat → List (List Int)} {B : Nat} (h : ∀ n, (f n).length ≤ B) : ∀ k, ((List.range k).flatMap f).length ≤ k * B
  | 0 => by simp
  | k + 1 => by
    have ih := flat_len h k
    have := h k
    have e : List.flatMap f [k] = f k := by simp
    rw [List.range_succ, List.flatMap_append, List.length_append, Nat.add_mul, e]
    omega
theorem shared_len (vs : List Vil) : ∀ m begun P, P ≤ 10 → (sharedL vs m begun P).length ≤ 11 ^ m
  | 0, begun, P, _ => by
    rw [sharedL]; split <;> simp
  | m + 1, begun, P, hP => by
    rw [sharedL]
    have h1 := flat_len (f := fun (n : Nat) => sharedL vs m (begun ++ [(n : Int)]) (P - n)) (fun n => shared_len vs m (begun ++ [(n : Int)]) (P - n) (by omega)) (min P (her vs begun.length).toNat + 1)
    have h2 : (min P (her vs begun.length).toNat + 1) * 11 ^ m ≤ 11 * 11 ^ m := Nat.mul_le_mul_right _ (by omega)
    rw [Nat.pow_succ, Nat.mul_comm (11 ^ m)]
    omega
theorem gputs {A : Nat → Prop} {B : Nat} {w w3 : World} {v v' : Value} {out news : List (List Int)} {vs us : List Value} (h1 : vs.length = out.length)
    (h3 : ∀ i (a : i < vs.length) (b : i < out.length), Ints (fun k => A k ∧ v.ownBlock ≠ some k) w vs[i] out[i]) (hu : us.length = news.length)
    (hr : ∀ i (a : i < us.length) (b : i < news.length), Ints (fun k => A k ∧ v.ownBlock ≠ some k) w us[i] news[i])
    (ho : Own B w3 22 1 v' (out.length + news.length) (vs ++ us)) (hT : Turned w w3 v v') : GO A B w3 v' (out ++ news) := by
  have hpl : ∀ k, k < w.heap.size → v.ownBlock ≠ some k → v'.ownBlock ≠ some k := fun k hk hv e => by
    rcases hT.place with e1 | e1
    · exact hv (e1 ▸ e)
    · rw [e1] at e; simp at e; omega
  have go : ∀ (u : Value) (x : List Int), Ints (fun k => A k ∧ v.ownBlock ≠ some k) w u x → Ints (fun k => A k ∧ v'.ownBlock ≠ some k) w3 u x := fun u x h =>
    ((h.wide (A' := fun k => A k ∧ v.ownBlock ≠ some k ∧ k < w.heap.size) fun k hk hl => ⟨hk.1, hk.2, hl⟩).step (w' := w3) hT.size fun k hk hl => hT.block k hl hk.2.1).wide fun k hk hl => ⟨hk.1, hpl k hk.2.2 hk.2.1⟩
  refine ⟨vs ++ us, by simp [h1, hu], by simpa using ho, fun i a b => ?_⟩
  by_cases hi : i < vs.length
  · rw [List.getElem_append_left hi, List.getElem_append_left (by omega)]
    exact go _ _ (h3 i hi (by omega))
  · rw [List.getElem_append_right (by omega), List.getElem_append_right (by omega)]
    have := hr (i - vs.length) (by simp at a; omega) (by simp at b; omega)
    have e : i - out.length = i - vs.length := by omega
    simp only [e]
    exact go _ _ this
theorem grid_one {A : Nat → Prop} {w : World} {us : List Value} {g : List (List Int)} (hu : us.length = g.length) (h : ∀ i (a : i < us.length) (b : i < g.length), Ints A w us[i] g[i]) : ∀ u ∈ us, u.oneCell' = true := by
  intro u hu'
  obtain ⟨i, hi, rfl⟩ := List.getElem_of_mem hu'
  obtain ⟨ao, cap, he, _⟩ := (h i hi (by omega)).shape
  rw [he]
  rfl

set_option maxRecDepth 100000 in
set_option maxHeartbeats 2000000 in
theorem shared_c {vs : List Vil} (hv : VOk vs) (hn4 : vs.length ≤ 4) : ∀ (m : Nat) (begun : List Int) (P : Nat) (w : World) (v1 v2 : Value) (A1 A2 : Nat → Prop), Vils A1 w v1 vs → Ints A2 w v2 begun → begun.length + m = vs.length → P ≤ 10 →
    Calls Try.prog 39 #[v1, v2, .int .i64 P] w fun e w' => ∃ v', e = .returned v' ∧ Grid (fun b => A2 b ∨ w.heap.size ≤ b) w' v' (sharedL vs m begun P) ∧ Below w.heap.size w w'
  | 0, begun, P, w, v1, v2, A1, A2, h1, h2, hl, hP => by
    obtain ⟨a1, c1, rfl, _, _⟩ := h1.shape
    have hs2 := h2.shape
    have hl' : begun.length = vs.length := by omega
    rw [hl'] at hs2
    obtain ⟨a2, c2, rfl, _, _⟩ := hs2
    clear hl
    have HL := Lib.hid hl'
    clear hl'
    by_cases h0 : P = 0
    · subst h0
      go_enter Try.func39, Try.ntmps39
      go_wp2
      go_ret
      refine ⟨_, rfl, ⟨[.slice a2 vs.length c2], rfl, (arr_one w 22 _).wide fun k hk _ => .inr hk, fun i a b => ?_⟩, (Below.refl _ w).alloc (Nat.le_refl _) _⟩
      have : i = 0 := by simpa using a
      subst this
      exact (h2.call ((Below.refl _ w).alloc (Nat.le_refl _) _)).wide fun k hk _ => .inl hk
    · have b1 : ((P : Int) == 0) = false := by simp; omega
      rw [sharedL, if_neg h0]
      clear h0
      go_enter Try.func39, Try.ntmps39
      go_wp2
      go_ret
      exact ⟨_, rfl, grid_nil _ _, Below.refl _ _⟩
  | m + 1, begun, P, w, v1, v2, A1, A2, h1, h2, hl, hP => by
    have ih := shared_c hv hn4 m
    have hbl : begun.length < vs.length := by omega
    have hS : sharedL vs (m + 1) begun P = (List.range (min P (her vs begun.length).toNat + 1)).flatMap fun (n : Nat) => sharedL vs m (begun ++ [(n : Int)]) (P - n) := rfl
    rw [hS]
    have hsl : ∀ n : Nat, (sharedL vs m (begun ++ [(n : Int)]) (P - n)).length ≤ 1331 := fun n => by
      have := shared_len vs m (begun ++ [(n : Int)]) (P - n) (by omega)
      have h2 : 11 ^ m ≤ 11 ^ 3 := Nat.pow_le_pow_right (by omega) (by omega)
      omega
    have hfl := flat_len (f := fun (n : Nat) => sharedL vs m (begun ++ [(n : Int)]) (P - n)) hsl
    have hvi := hv _ (List.getElem_mem hbl)
    have hhr : her vs begun.length = vs[begun.length].herd := her_at hbl
    obtain ⟨hd, hhd⟩ : ∃ hd : Nat, vs[begun.length].herd = hd := ⟨(vs[begun.length].herd).toNat, by omega⟩
    rw [hhd] at hhr hvi
    rw [hhr, Int.toNat_natCast]
    obtain ⟨R, hR⟩ : ∃ R, R = (List.range (min P hd + 1)).flatMap fun (n : Nat) => sharedL vs m (begun ++ [(n : Int)]) (P - n) := ⟨_, rfl⟩
    rw [← hR]
    have HR := Lib.hid hR
    clear hR
    obtain ⟨a1, c1, rfl, _, _⟩ := h1.shape
    obtain ⟨b1, o1, rfl, _, hb1⟩ := h1.addr (by omega)
    obtain ⟨p1, d1, _, g2, _, _⟩ := h1.at begun.length hbl
    rw [hhd] at g2
    obtain ⟨a2, c2, rfl, _, _⟩ := h2.shape
    have nb : ((begun.length : Int) == (vs.length : Int)) = false := by simp; omega
    have IH := Lib.hid ih
    have HL := Lib.hid hl
    have HSL := Lib.hid hsl
    have HFL := Lib.hid hfl
    have hb4 : begun.length ≤ 4 := by omega
    clear ih hl hsl hfl hhr hhd hS
    go_enter Try.func39, Try.ntmps39
    go_wp2
    go_loopw [8, 9] (fun s8 s9 wr => ∃ (k : Nat) (out : List (List Int)), k ≤ min P hd + 1 ∧ s9 = .int .i64 k ∧ out = (List.range k).flatMap (fun (n : Nat) => sharedL vs m (begun ++ [(n : Int)]) (P - n)) ∧ GO (fun b => w.heap.size ≤ b) w.heap.size wr s8 out ∧ Below w.heap.size w wr) (fun _ s9 _ => P + 1 - (intOf s9).toNat)
    case atStart => exact ⟨0, [], Nat.zero_le _, rfl, rfl, GO.nil _ _ _, Below.refl _ _⟩
    case round =>
      obtain ⟨k, out, hk, rfl, hout, hGo, hB⟩ := hrel
      have hol : out.length ≤ 20000 := by
        have h := HFL.out k
        rw [← hout] at h
        have h2 : k * 1331 ≤ 11 * 1331 := Nat.mul_le_mul_right _ (by omega)
        omega
      have HOUT := Lib.hid hout
      have g3 := (World.cell?_of_block (hB.block b1 hb1)).trans g2
      have hsz := hB.size
      clear hout
      by_cases hlt : k ≤ min P hd
      · have q1 : k ≤ P := by omega
        have q2 : k ≤ hd := by omega
        obtain ⟨PK, hPK⟩ : ∃ PK : Nat, PK = P - k := ⟨_, rfl⟩
        have hPK2 : ((P : Int) - (k : Int)) = (PK : Int) := by omega
        have hPK3 : PK ≤ 10 := by omega
        have d1 : decide ((k : Int) ≤ (P : Int)) = true := by simp; omega
        have d2 : decide ((k : Int) ≤ (hd : Int)) = true := by simp; omega
        have HPK := Lib.hid hPK
        have HPK2 := Lib.hid hPK2
        clear hPK hPK2
        go_wp2_with fail
        refine (copyInts_own (h2.call hB) (by omega)).mono ?_
        rintro e w2 ⟨vb, rfl, hob, hB2⟩
        have hob2 := hob.alloc (.cells #[.int .i64 (k : Int)] 3)
        have hB2s := hB2.size
        have hla := arr_one w2 3 (.int .i64 (k : Int))
        go_wp2_with (at_builtin; refine wpList_append_arr rfl _ _ 22 rfl 3 (.int .i64 0) 1 8 Try.underlying22 Try.info3 rfl (by decide) (by decide) (by simp; omega) hob2 rfl hla rfl rfl (one_int _) (by omega) ?_; intro vc w3 hown hT1)
        have hbn : begun.length + 1 ≤ 4 := by omega
        have hown : Own wr.heap.size w3 3 1 vc (begun.length + 1) (I64 (begun ++ [(k : Int)])) := by rw [I64_append]; exact hown
        have hB3 : Below wr.heap.size wr w3 := hT1.below hob2 (hB2.alloc (by omega) _) (by simp; omega)
        have hB3w := hB.trans (hB3.mono hsz)
        have hih := IH.out (begun ++ [(k : Int)]) PK w3 _ vc A1 _ (h1.call hB3w) (Own.ints hown) (by have := HL.out; simp; omega) hPK3
        rw [← HPK2.out] at hih
        obtain ⟨S, hSS⟩ : ∃ S, S = sharedL vs m (begun ++ [(k : Int)]) PK := ⟨_, rfl⟩
        rw [← hSS] at hih
        have hSl : S.length ≤ 1331 := by rw [hSS, HPK.out]; exact HSL.out k
        have HSS := Lib.hid hSS
        have HIH := Lib.hid hih
        clear hSS hih hown hT1 hob2 hob hla hB2 hB2s
        refine HIH.out.mono ?_
        rintro e w4 ⟨vd, rfl, hG, hB4⟩
        have hB4r := hB3.trans (hB4.mono hB3.size)
        have hs3 := hB3.size
        have hs4 := hB4.size
        have hvl : ∀ q, u8.ownBlock = some q → q < wr.heap.size := fun q hq => hGo.lt q hq
        obtain ⟨us, hu, hArr, hus⟩ := hG
        obtain ⟨vs2, hv1, ho, hrows⟩ := hGo.call hB4r
        have hr : ∀ i (a : i < us.length) (b : i < S.length), Ints (fun q => w.heap.size ≤ q ∧ u8.ownBlock ≠ some q) w4 us[i] S[i] := fun i a b => (hus i a b).wide fun q hq _ => ⟨by omega, fun e => by have := hvl q e; omega⟩
        obtain ⟨ad, cd, rfl⟩ : ∃ ad cd, vd = .slice ad S.length cd := by
          obtain ⟨ad, cd, he, _⟩ := hArr
          exact ⟨ad, cd, he⟩
        obtain ⟨ax, cx, rfl⟩ := own_slice ho
        have hone := grid_one hu hus
        clear HIH
        go_wp2_with (at_builtin; refine wpList_append_arr rfl _ _ 35 rfl 22 (.slice none 0 0) 1 24 Try.under35 Try.info22 rfl (by decide) (by decide) (by omega) ho rfl hArr rfl (by rw [hu, Nat.mul_one]) hone (by omega) ?_; intro ve w5 hown2 hT2)
        have hGn := gputs hv1 hrows hu hr hown2 hT2
        have hB5 : Below w.heap.size w w5 := hT2.below ho (hB.trans (hB4r.mono hsz)) (by omega)
        go_roundw
        case rel =>
          refine ⟨k + 1, _, by omega, by go_num, ?_, hGn, hB5⟩
          rw [HOUT.out, List.range_succ, List.flatMap_append, HSS.out, HPK.out]
          simp
        case measure => simp [intOf]; omega
      · obtain rfl : k = min P hd + 1 := by omega
        have hfin := HOUT.out
        subst hfin
        by_cases hc : P ≤ hd
        · have d1 : decide (((min P hd + 1 : Nat) : Int) ≤ (P : Int)) = false := by simp; omega
          obtain ⟨kk, hkk⟩ : ∃ kk, kk = min P hd + 1 := ⟨_, rfl⟩
          rw [← hkk] at d1 hGo ⊢
          have HKK := Lib.hid hkk
          have d3 : P < kk := by omega
          clear hkk
          go_wp2
          go_ret
          rw [HKK.out] at hGo
          refine ⟨_, rfl, ?_, hB⟩
          rw [HR.out]
          exact hGo.grid (fun b hb => Or.inr hb) (fun b hb => Or.inr hb)
        · have d1 : decide (((min P hd + 1 : Nat) : Int) ≤ (P : Int)) = true := by simp; omega
          have d2 : decide (((min P hd + 1 : Nat) : Int) ≤ (hd : Int)) = false := by simp; omega
          obtain ⟨kk, hkk⟩ : ∃ kk, kk = min P hd + 1 := ⟨_, rfl⟩
          rw [← hkk] at d1 d2 hGo ⊢
          have HKK := Lib.hid hkk
          have d3 : kk ≤ P := by omega
          have d4 : hd < kk := by omega
          clear hkk
          go_wp2
          go_ret
          rw [HKK.out] at hGo
          refine ⟨_, rfl, ?_, hB⟩
          rw [HR.out]
          exact hGo.grid (fun b hb => Or.inr hb) (fun b hb => Or.inr hb)

end Go.Proofs.Ythchpoabncdicaa
