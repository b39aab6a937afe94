/- All lists of so many numbers, ascending (mestakit.Picks); conditions: numbers up to seven. -/
import Derived.Test.YtgdifckmjdjcpaaCw
namespace Go.Proofs.Ytgdifckmjdjcpaa
open Go.RowKit

theorem Try.under61 : Try.prog.underlying 61 = some (.slice 27) := by kernel_rfl
theorem Try.info27 : (Try.prog.info? 27).map (fun i => (i.zero, i.size, i.bytes)) = some (some (.slice none 0 0), 1, 24) := by kernel_rfl
/-- A slice of slices that the call has made; its rows lie apart from it, in blocks of A. -/
def GO (A : Nat → Prop) (B : Nat) (w : World) (v : Value) (out : List (List Int)) : Prop :=
  ∃ vs : List Value, vs.length = out.length ∧ Own B w 27 1 v out.length vs ∧ ∀ i (a : i < vs.length) (b : i < out.length), Ints (fun k => A k ∧ v.ownBlock ≠ some k) w vs[i] out[i]
theorem GO.nil (A : Nat → Prop) (B : Nat) (w : World) : GO A B w (.slice none 0 0) [] := ⟨[], rfl, Own.nil, fun i a => by simp at a⟩
theorem GO.call {A : Nat → Prop} {B : Nat} {w w' : World} {v : Value} {out : List (List Int)} (h : GO A B w v out) (hB : Below w.heap.size w w') : GO A B w' v out := by
  obtain ⟨vs, h1, h2, h3⟩ := h
  exact ⟨vs, h1, h2.step fun k _ _ hl => hB.block k hl, fun i a b => (h3 i a b).step hB.size fun k _ hl => hB.block k hl⟩
theorem GO.lt {A : Nat → Prop} {B : Nat} {w : World} {v : Value} {out : List (List Int)} (h : GO A B w v out) (q : Nat) (hq : v.ownBlock = some q) : q < w.heap.size := by
  obtain ⟨vs, _, ho, _⟩ := h
  exact (ho.lt q hq).2
theorem GO.grid {A C : Nat → Prop} {B : Nat} {w : World} {v : Value} {out : List (List Int)} (h : GO A B w v out) (hA : ∀ k, A k → C k) (hB : ∀ k, B ≤ k → C k) : Grid C w v out := by
  obtain ⟨vs, h1, h2, h3⟩ := h
  exact ⟨vs, h1, h2.arr.wide fun k hk _ => hB k hk, fun i a b => (h3 i a b).wide fun k hk _ => hA k hk.1⟩
theorem gput {A : Nat → Prop} {B : Nat} {w w3 : World} {v v' r : Value} {out : List (List Int)} {vs : List Value} {l : List Int} (h1 : vs.length = out.length)
    (h3 : ∀ i (a : i < vs.length) (b : i < out.length), Ints (fun k => A k ∧ v.ownBlock ≠ some k) w vs[i] out[i]) (hr : Ints (fun k => A k ∧ v.ownBlock ≠ some k) w r l)
    (ho : Own B w3 27 1 v' (out.length + 1) (vs ++ [r])) (hT : Turned (w.alloc (.cells #[r] 27)) w3 v v') : GO A B w3 v' (out ++ [l]) := by
  have hsz : (w.alloc (.cells #[r] 27)).heap.size = w.heap.size + 1 := by simp
  have hpl : ∀ k, k < w.heap.size + 1 → v.ownBlock ≠ some k → v'.ownBlock ≠ some k := fun k hk hv e => by
    rcases hT.place with e1 | e1
    · exact hv (e1 ▸ e)
    · rw [e1, hsz] at e; simp at e; omega
  have hs3 : w.heap.size + 1 ≤ w3.heap.size := by have := hT.size; omega
  have go : ∀ (u : Value) (x : List Int), Ints (fun k => A k ∧ v.ownBlock ≠ some k) w u x → Ints (fun k => A k ∧ v'.ownBlock ≠ some k) w3 u x := fun u x h =>
    ((h.wide (A' := fun k => A k ∧ v.ownBlock ≠ some k ∧ k < w.heap.size) fun k hk hl => ⟨hk.1, hk.2, hl⟩).step (w' := w3) (by omega) fun k hk hl => by
      rw [hT.block k (by omega) hk.2.1, Below.heap_alloc _ _ k hl]).wide fun k hk hl => ⟨hk.1, hpl k (by have := hk.2.2; omega) hk.2.1⟩
  refine ⟨vs ++ [r], by simp [h1], by simpa using ho, fun i a b => ?_⟩
  by_cases hi : i < vs.length
  · rw [List.getElem_append_left hi, List.getElem_append_left (by omega)]
    exact go _ _ (h3 i hi (by omega))
  · have hie : i = vs.length := by simp at a; omega
    subst hie
    have e1 : (vs ++ [r])[vs.length] = r := by simp
    have e2 : (out ++ [l])[vs.length] = l := by simp [h1]
    rw [e1, e2]
    exact go _ _ hr

def picksL (n : Nat) : Nat → Nat → List (List Int)
  | 0, _ => [[]]
  | m + 1, f => (List.range (n - f)).flatMap fun (d : Nat) => (picksL n m (f + d + 1)).map fun t => ((f + d : Nat) : Int) :: t
/-- Those that begin with the first d numbers. -/
def picksTo (n m f d : Nat) : List (List Int) := (List.range d).flatMap fun (d : Nat) => (picksL n m (f + d + 1)).map fun t => ((f + d : Nat) : Int) :: t
theorem picksTo_succ (n m f d : Nat) : picksTo n m f (d + 1) = picksTo n m f d ++ (picksL n m (f + d + 1)).map fun t => ((f + d : Nat) : Int) :: t := by
  rw [picksTo, picksTo, List.range_succ, List.flatMap_append]; simp
theorem picksL_len {n : Nat} (hn : n ≤ 7) : ∀ m, m ≤ 7 → ∀ f, f ≤ 8 → (picksL n m f).length ≤ 40 ∧ ∀ l ∈ picksL n m f, l.length = m := by
  have h : ∀ n < 8, ∀ m < 8, ∀ f < 9, (picksL n m f).length ≤ 40 ∧ ∀ l ∈ picksL n m f, l.length = m := by decide +kernel
  intro m hm f hf
  exact h n (by omega) m (by omega) f (by omega)
theorem picksTo_len {n : Nat} (hn : n ≤ 7) (m : Nat) (hm : m ≤ 7) (f : Nat) (hf : f ≤ 7) : ∀ d, d + f ≤ 8 → (picksTo n m f d).length ≤ 40 * d
  | 0, _ => by simp [picksTo]
  | d + 1, h => by
    have ih := picksTo_len hn m hm f hf d (by omega)
    have := (picksL_len hn m hm (f + d + 1) (by omega)).1
    rw [picksTo_succ, List.length_append, List.length_map]
    omega

/-- A grid that lies apart from a row in the making. -/
theorem Grid.turn {N : Nat} {w w3 : World} {v v' x : Value} {o : Obj} {R : List (List Int)} (h : Grid (fun k => k < N ∧ v.ownBlock ≠ some k) w x R) (hN : N ≤ w.heap.size) (hT : Turned (w.alloc o) w3 v v') : Grid (fun k => k < N ∧ v'.ownBlock ≠ some k) w3 x R := by
  have hsz : (w.alloc o).heap.size = w.heap.size + 1 := by simp
  have hs3 := hT.size
  refine (h.step (by omega) fun k hk hl => ?_).wide fun k hk _ => ⟨hk.1, fun e => ?_⟩
  · rw [hT.block k (by omega) hk.2, Below.heap_alloc _ _ k hl]
  · rcases hT.place with e1 | e1
    · exact hk.2 (e1 ▸ e)
    · rw [e1, hsz] at e
      have := hk.1
      simp at e; omega

set_option maxRecDepth 100000 in
set_option maxHeartbeats 2000000 in
theorem picks_c {n : Nat} (hn : n ≤ 7) : ∀ (m : Nat), m ≤ 7 → ∀ f : Nat, f ≤ 8 → ∀ w : World,
    Calls Try.prog 43 #[.int .i64 f, .int .i64 n, .int .i64 m] w fun e w' => ∃ v', e = .returned v' ∧ Grid (fun b => w.heap.size ≤ b) w' v' (picksL n m f) ∧ Below w.heap.size w w'
  | 0, _, f, _, w => by
    go_enter Try.func43, Try.ntmps43
    go_wp2
    go_ret
    refine ⟨_, rfl, ⟨[.slice none 0 0], rfl, arr_one w 27 _, fun i a b => ?_⟩, (Below.refl _ w).alloc (Nat.le_refl _) _⟩
    have : i = 0 := by simpa using a
    subst this
    exact ints_nil _ _
  | m + 1, hm, f, hf, w => by
    have ih := picks_c hn m (by omega)
    have hPl := picksL_len hn m (by omega)
    have hTl := picksTo_len hn m (by omega) f
    have hTs := picksTo_succ n m f
    have hR : picksL n (m + 1) f = picksTo n m f (n - f) := rfl
    rw [hR]
    have hT0 : picksTo n m f 0 = [] := rfl
    generalize picksTo n m f = T at hTl hTs hT0 ⊢
    clear hR
    obtain ⟨M, hM⟩ : ∃ M, M = ((m + 1 : Nat) : Int) := ⟨_, rfl⟩
    rw [← hM]
    have b1 : (M == 0) = false := by simp; omega
    have b0 : ¬ M = 0 := by omega
    have e1 : M - 1 = (m : Int) := by omega
    have m1 : 1 ≤ M := by omega
    have m2 : M ≤ 7 := by omega
    clear hM
    have IH := Lib.hid ih
    have HPL := Lib.hid hPl
    have HTL := Lib.hid hTl
    have HTS := Lib.hid hTs
    have HT0 := Lib.hid hT0
    clear ih hPl hTl hTs hT0
    go_enter Try.func43, Try.ntmps43
    go_wp2_with fail
    go_loopw [7, 8] (fun s5 i wr => ∃ d : Nat, (d ≤ n - f) ∧ i = .int .i64 ((f + d : Nat) : Int) ∧ GO (fun b => w.heap.size ≤ b) w.heap.size wr s5 (T d) ∧ Below w.heap.size w wr) (fun _ i _ => n - (intOf i).toNat)
    case atStart => exact ⟨0, Nat.zero_le _, rfl, by rw [HT0.out]; exact GO.nil _ _ _, Below.refl _ _⟩
    case round =>
      obtain ⟨d, hd, rfl, hGo, hB⟩ := hrel
      have hsr := hB.size
      by_cases hlt : f + d < n
      · have b2 : decide (((f + d : Nat) : Int) < (n : Int)) = true := decide_eq_true (by omega)
        obtain ⟨q, hq⟩ : ∃ q, q = f + d := ⟨_, rfl⟩
        rw [← hq] at b2 ⊢
        have hqn : q < n := by omega
        have hc := IH.out (q + 1) (by omega) wr
        rw [show ((q + 1 : Nat) : Int) = (q : Int) + 1 from by simp] at hc
        obtain ⟨hRl, hRa⟩ := HPL.out (q + 1) (by omega)
        have hts := HTS.out d
        rw [← hq] at hts
        have htl := HTL.out (by omega) d (by omega)
        generalize picksL n m (q + 1) = R at hc hRl hRa hts
        obtain ⟨out, hout⟩ : ∃ out, out = T d := ⟨_, rfl⟩
        rw [← hout] at hGo hts htl
        have HC := Lib.hid hc
        have HRA := Lib.hid hRa
        have HTQ := Lib.hid hts
        have HQ := Lib.hid hq
        clear hc hRa hts hq hout
        go_wp2_with fail
        refine HC.out.mono ?_
        rintro e w1 ⟨vr, rfl, hG, hB1⟩
        obtain ⟨ar, cr, rfl, _, _⟩ := hG.shape
        have hs1 := hB1.size
        have hGo1 := hGo.call hB1
        have hlt1 : ∀ k, u7.ownBlock = some k → k < wr.heap.size := fun k hk => hGo.lt k hk
        have hG1 : Grid (fun k => k < w1.heap.size ∧ u7.ownBlock ≠ some k) w1 (.slice ar R.length cr) R := hG.wide fun k hk hl => ⟨hl, fun e => by have := hlt1 k e; omega⟩
        have hBw := hB.trans (hB1.mono hsr)
        clear HC
        go_wp2_with fail
        go_loopw [7, 10] (fun s5 i2 wx => ∃ (k : Nat) (o2 : List (List Int)), k ≤ R.length ∧ i2 = .int .i64 k ∧ o2 = out ++ (R.take k).map (fun t => (q : Int) :: t) ∧ GO (fun b => w.heap.size ≤ b) w.heap.size wx s5 o2 ∧ Grid (fun k => k < w1.heap.size ∧ s5.ownBlock ≠ some k) wx (.slice ar R.length cr) R ∧ Below w.heap.size w wx ∧ w1.heap.size ≤ wx.heap.size) (fun _ i2 _ => R.length - (intOf i2).toNat)
        case atStart => exact ⟨0, out, Nat.zero_le _, rfl, by simp, hGo1, hG1, hBw, Nat.le_refl _⟩
        case round =>
          rename World => wx
          obtain ⟨k, o2, hk, rfl, ho2, hGx, hGr, hBx, hsx1⟩ := hrel
          have ho2l : o2.length ≤ 400 := by rw [ho2]; simp; omega
          have HO2 := Lib.hid ho2
          clear ho2
          by_cases hkl : k < R.length
          · obtain ⟨br, or, rfl, -, hbr⟩ := hGr.addr (by omega)
            obtain ⟨aw, cw, g1, hrow⟩ := hGr.row k hkl
            have hll := HRA.out (R[k]) (List.getElem_mem hkl)
            have hsx := hBx.size
            have hBa := (Below.refl wx.heap.size wx).alloc (Nat.le_refl _) (.cells #[.int .i64 q] 3)
            have hL := own_lit wx 3 1 #[.int .i64 q] 1 rfl (by omega)
            have g2 := hrow.call hBa
            obtain ⟨l, hle⟩ : ∃ l, l = R[k] := ⟨_, rfl⟩
            rw [← hle] at g1 g2 hrow hll
            have HLE := Lib.hid hle
            clear hle
            have hl3 : l.length ≤ 7 := by omega
            clear hll
            have hbl : 1 + l.length ≤ 1000 := by omega
            have hbr2 : br < wx.heap.size := by omega
            have g1 := (World.cell?_of_block (Below.heap_alloc wx (.cells #[.int .i64 q] 3) br hbr2)).trans g1
            go_wp2_with (at_builtin; first | (refine wpList_append_arr rfl _ _ 27 rfl 3 (.int .i64 0) 1 8 Try.underlying27 Try.info3 rfl (by decide) (by decide) (by simp) hL rfl g2 rfl (by rw [I64_len, Nat.mul_one]) (ints_one l) (by omega) ?_; intro v1 w2 hown hT1; have hB2 : Below wx.heap.size wx w2 := hT1.below hL hBa (by simp); have hs2 := hB2.size; have hown : Own wx.heap.size w2 3 1 v1 (1 + l.length) (I64 ((q : Int) :: l)) := hown; have hrw : Ints (fun k => wx.heap.size ≤ k) w2 v1 ((q : Int) :: l) := Own.ints hown; obtain ⟨a1, k1, rfl⟩ := own_slice hown; obtain ⟨vs, hv1, ho, hrows⟩ := hGx.call hB2; have hvl : ∀ q, u7.ownBlock = some q → q < wx.heap.size := fun q hq => (GO.lt hGx q hq); have hrr := hrw.wide (A' := fun q => w.heap.size ≤ q ∧ u7.ownBlock ≠ some q) fun q hq _ => ⟨by omega, fun e => by have := hvl q e; omega⟩; have hGr2 := hGr.call hB2; obtain ⟨ax, cx, rfl⟩ := own_slice ho; have hoa := ho.alloc (.cells #[.slice a1 (1 + l.length) k1] 27); have ha := arr_one w2 27 (.slice a1 (1 + l.length) k1); clear hown hrw hL g2 hrow hT1) | (refine wpList_append_arr rfl _ _ 61 rfl 27 (.slice none 0 0) 1 24 Try.under61 Try.info27 rfl (by decide) (by decide) (by simp; omega) hoa rfl ha rfl rfl (one_slice _ _ _) (by omega) ?_; intro v2 w3 hown2 hT2))
            have hGn := gput hv1 hrows hrr hown2 hT2
            have hB3 : Below w.heap.size w w3 := hT2.below hoa ((hBx.trans (hB2.mono hsx)).alloc (by have := hB2.size; omega) _) (by have := hB2.size; simp; omega)
            have hGr3 := hGr2.turn (by omega) hT2
            have hs3 := hT2.size
            have hs4 : (w2.alloc (.cells #[.slice a1 (1 + l.length) k1] 27)).heap.size = w2.heap.size + 1 := by simp
            go_roundw
            case rel =>
              refine ⟨k + 1, _, by omega, by go_num, ?_, hGn, hGr3, hB3, by omega⟩
              rw [HO2.out, HLE.out, List.take_succ_eq_append_getElem hkl, List.map_append, List.append_assoc]
              rfl
            case measure => simp [intOf]; omega
          · obtain rfl : k = R.length := by omega
            go_wp2
            go_roundw
            case rel =>
              refine ⟨d + 1, by omega, ?_, ?_, hBx⟩
              · have := HQ.out
                go_num
              · rw [HTQ.out, ← List.take_length (l := R), ← HO2.out]
                simpa using hGx
            case measure => have := HQ.out; simp [intOf]; omega
      · have hdn : d = n - f := by omega
        subst hdn
        have b2 : decide (((f + (n - f) : Nat) : Int) < (n : Int)) = false := decide_eq_false (by omega)
        go_wp2
        go_ret
        exact ⟨_, rfl, hGo.grid (fun k hk => hk) (fun k hk => hk), hB⟩

end Go.Proofs.Ytgdifckmjdjcpaa
