/- The contract of Swaps (mestaref08) at valid arguments; conditions: as said. -/
import Derived.Test.YthchpoabncdicaaRS1
namespace Go.Proofs.Ythchpoabncdicaa
open Go.RowKit

def boolN : Value → Nat
  | .bool true => 1
  | _ => 0
/-- What the exchanges keep in memory. -/
structure SwM (b0 g cap n B : Nat) (w1 : World) (l2 : List Int) (out : List (List Int)) (o : Value) (wx : World) : Prop where
  own : Own b0 wx 3 1 (.slice (some ⟨g, 0, none⟩) n cap) n (I64 l2)
  out : GOwn B wx o out
  sz : B ≤ wx.heap.size
  bel : Below b0 w1 wx
theorem SwM.call {b0 g cap n B : Nat} {w1 : World} {l2 : List Int} {out : List (List Int)} {o : Value} {wx wy : World} (h : SwM b0 g cap n B w1 l2 out o wx) (hB : Below wx.heap.size wx wy) (hb : b0 ≤ wx.heap.size) : SwM b0 g cap n B w1 l2 out o wy :=
  ⟨h.own.call hB, h.out.call hB, Nat.le_trans h.sz hB.size, h.bel.trans (hB.mono hb)⟩
/-- An exchange has been found and made. -/
def SwD (vs : List Vil) (b0 g cap n B : Nat) (w1 : World) (l2 : List Int) (out : List (List Int)) (o : Value) (wx : World) : Prop :=
  ∃ p : Nat × Nat, IsWant vs l2 p ∧ p.1 < p.2 ∧ p.2 < n ∧ both vs l2 p.1 p.2 = true ∧ SwM b0 g cap n B w1 (swapAt l2 p) (out ++ [[(p.1 : Int), (p.2 : Int)]]) o wx ∧ sliceLen o = out.length + 1
def SwI (vs : List Vil) (b0 g cap n B : Nat) (w1 : World) (l2 : List Int) (out : List (List Int)) (o0 : Value) (k : Nat) (f o : Value) (wx : World) : Prop :=
  (f = .bool false ∧ o0 = o ∧ SwM b0 g cap n B w1 l2 out o0 wx ∧ ∀ a b, a < k → a < b → b < n → both vs l2 a b = false) ∨ (f = .bool true ∧ SwD vs b0 g cap n B w1 l2 out o wx)
def SwK (vs : List Vil) (b0 g cap n B : Nat) (w1 : World) (l2 : List Int) (out : List (List Int)) (o0 : Value) (k j : Nat) (f o : Value) (wx : World) : Prop :=
  (f = .bool false ∧ o0 = o ∧ SwM b0 g cap n B w1 l2 out o0 wx ∧ ∀ b, k < b → b < j → both vs l2 k b = false) ∨ (f = .bool true ∧ SwD vs b0 g cap n B w1 l2 out o wx)

set_option maxRecDepth 100000 in
set_option maxHeartbeats 8000000 in
theorem rswaps_good {A A' : Nat → Prop} {w : World} {vm vv vd : Value} {c : Com} {l : List Int} (h : Cm A w vm vv c) (hd : Ints A' w vd l) (he : divE c l = 0) :
    Calls Try.prog 31 #[.agg #[vm, vv], vd] w fun e w' => ∃ v1 v2, e = .returned (.tuple #[v1, v2, .int .i64 0]) ∧ Grid (fun b => w.heap.size ≤ b) w' v1 (swapsF c.villages l).1 ∧ Ints (fun b => w.heap.size ≤ b) w' v2 (swapsF c.villages l).2 ∧ Below w.heap.size w w' := by
  obtain ⟨am, cpm, rfl, _, _⟩ := h.1.shape
  obtain ⟨av, cpv, rfl, _, _⟩ := h.2.shape
  obtain ⟨ad, cpd, rfl, _, _⟩ := hd.shape
  obtain ⟨hok, hp⟩ := divE_ok he
  have hol := hp.len
  have hn1 : 0 < l.length := by have := hok.n1; omega
  have hn4 : l.length ≤ 4 := by have := hok.n2; omega
  have hvl : c.villages.length = l.length := by have := hok.vl; omega
  obtain ⟨bd, od, rfl, -, -, -⟩ := hd.addr hn1
  have hlk : ∀ v ∈ c.villages, PermOf l.length v.likes := fun v hv => by rw [hol]; exact (hok.vil v hv).2.2.2.2
  rw [← hol] at hp
  have hB0 : Below w.heap.size w (w.alloc (.cells #[.slice am c.mountains.length cpm, .slice av c.villages.length cpv] 25)) := (Below.refl _ w).alloc (Nat.le_refl _) _
  have hx : Blk w.heap.size #[.slice am c.mountains.length cpm, .slice av c.villages.length cpv] 25 (w.alloc (.cells #[.slice am c.mountains.length cpm, .slice av c.villages.length cpv] 25)) := Blk.new w _ _
  have h0 := h.call hB0
  have hd0 := hd.call hB0
  have has := asked_c h0 hd0
  rw [he] at has
  have HAS := Lib.hid has
  have HOL := Lib.hid hol
  have HVL := Lib.hid hvl
  have HP := Lib.hid hp
  have HLK := Lib.hid hlk
  clear hol hvl he hp hlk has
  go_enter Try.func31, Try.ntmps31
  go_wp2_with fail
  refine HAS.out.mono ?_
  rintro e w1 ⟨rfl, hB1⟩
  have h1 := h0.call hB1
  have hd1 := hd0.call hB1
  have hx1 := hx.below hB1 (by simp)
  have hB2 := hB0.trans (hB1.mono hB0.size)
  have hws := hB2.size
  have hxl := hx1.lt
  clear h0 hd0 hB0 hB1 hx HAS
  have ho := own_lit w1 3 1 #[] 0 rfl (by omega)
  have hda := hd1.alloc (.cells #[] 3)
  go_wp2_with (at_builtin; refine wpList_append_arr rfl _ _ 22 rfl 3 (.int .i64 0) 1 8 Try.underlying22 Try.info3 rfl (by decide) (by decide) (by simp) ho rfl hda rfl (by rw [I64_len, Nat.mul_one]) (ints_one l) (by omega) ?_; intro v2 w2 hown hT)
  have hB3 : Below w1.heap.size w1 w2 := hT.below ho ((Below.refl w1.heap.size w1).alloc (Nat.le_refl _) _) (by simp)
  have ho2 : Own w1.heap.size w2 3 1 v2 l.length (I64 l) := by
    have h2 : Own w1.heap.size w2 3 1 v2 (0 + l.length) ([] ++ I64 l) := hown
    rw [Nat.zero_add, List.nil_append] at h2
    exact h2
  obtain ⟨g, cap, rfl, hg1, hg2⟩ := own_shape ho2 hn1
  clear hT hown ho hda hd1
  obtain ⟨B, hBe⟩ : ∃ B, B = w2.heap.size := ⟨_, rfl⟩
  have hgB : g < B := by rw [hBe]; exact hg2
  have hBs : B ≤ w2.heap.size := by rw [hBe]; exact Nat.le_refl _
  have hwB : w1.heap.size ≤ B := by rw [hBe]; exact hB3.size
  clear hBe
  have hM0 : SwM w1.heap.size g cap l.length B w1 l [] (.slice none 0 0) w2 := ⟨ho2, GOwn.nil _ _, hBs, hB3⟩
  have hpl : pot c.villages l ≤ 16 := Nat.le_trans (pot_le c.villages l HLK.out) (Nat.mul_le_mul hn4 hn4)
  clear ho2 hB3
  go_wp2_with fail
  go_loopw [9, 10] (fun o f wx => ∃ (l2 : List Int) (out : List (List Int)) (kk : Nat) (fd : Bool), f = .bool fd ∧ l2.length = l.length ∧ PermOf l.length l2 ∧ swapsN c.villages kk l2 out = swapsF c.villages l ∧ pot c.villages l2 ≤ kk ∧ out.length + kk ≤ pot c.villages l ∧
    (fd = false → wantF c.villages l2 = (0, 0)) ∧ SwM w1.heap.size g cap l.length B w1 l2 out o wx ∧ sliceLen o = out.length) (fun o f _ => 2 * (pot c.villages l - sliceLen o) + boolN f)
  case atStart => exact ⟨l, [], pot c.villages l, true, rfl, rfl, HP.out, rfl, Nat.le_refl _, by simp, (fun h => by cases h), hM0, rfl⟩
  case round =>
    rename World => wa
    obtain ⟨l2, out, kk, fd, rfl, hl2, hp2, htr, hpk, hpot, hwf, hM, hsl⟩ := hrel
    have HTR := Lib.hid htr
    have HP2 := Lib.hid hp2
    have HWF := Lib.hid hwf
    have HL2 := Lib.hid hl2
    have HSL := Lib.hid hsl
    clear htr hp2 hwf hl2 hsl hM0
    cases fd with
    | false =>
      have hst := swapsN_stop (HWF.out rfl) kk out
      rw [HTR.out] at hst
      have HST := Lib.hid hst
      clear hst
      go_wp2
      go_ret3
      refine ⟨_, _, rfl, ?_, ?_, hB2.trans (hM.bel.mono hws)⟩
      · rw [HST.out]; exact hM.out.grid.wide fun k hk _ => by omega
      · rw [HST.out]
        exact (Own.ints hM.own).wide fun k hk _ => by omega
    | true =>
      obtain ⟨o0, rfl⟩ : ∃ o0 : Value, o0 = u9 := ⟨_, rfl⟩
      go_wp2_with fail
      go_loopw [9, 10, 11] (fun o f i wx => ∃ k : Nat, k ≤ l.length ∧ i = .int .i64 k ∧ SwI c.villages w1.heap.size g cap l.length B w1 l2 out o0 k f o wx) (fun _ _ i _ => l.length - (intOf i).toNat)
      case atStart => exact ⟨0, Nat.zero_le _, rfl, .inl ⟨rfl, rfl, hM, by omega⟩⟩
      case round =>
        rename World => wb
        obtain ⟨k, hk, rfl, hS⟩ := hrel
        rcases hS with ⟨rfl, rfl, hMb, hpre⟩ | ⟨rfl, hDn⟩
        · have HPRE := Lib.hid hpre
          clear hpre
          by_cases hlt : k < l.length
          · go_wp2_with fail
            go_loopw [9, 10, 12] (fun o f j wx => ∃ jn : Nat, jn ≤ l.length ∧ k < jn ∧ j = .int .i64 jn ∧ SwK c.villages w1.heap.size g cap l.length B w1 l2 out o0 k jn f o wx) (fun _ _ j _ => l.length - (intOf j).toNat)
            case atStart => exact ⟨k + 1, by omega, by omega, by go_num, .inl ⟨rfl, rfl, hMb, by omega⟩⟩
            case round =>
              rename World => wc
              obtain ⟨jn, hj, hkj, rfl, hS⟩ := hrel
              rcases hS with ⟨rfl, rfl, hMc, hpre2⟩ | ⟨rfl, hDn⟩
              · have HPRE2 := Lib.hid hpre2
                clear hpre2
                by_cases hjl : jn < l.length
                · have hxc := hx1.call hMc.bel
                  have c0 := hxc.cell 0
                  have c1 := hxc.cell 1
                  have hbz := hMc.bel.size
                  have hkl2 : k < l2.length := by rw [HL2.out]; exact hlt
                  have hjl2 : jn < l2.length := by rw [HL2.out]; exact hjl
                  have hrw := rwant_c (h1.call hMc.bel) (Own.ints hMc.own) (by rw [HL2.out, HVL.out]) (by rw [HL2.out]; exact HLK.out) (by rw [HL2.out]; exact HP2.out) k jn hkl2 hjl2
                  cases hbo : both c.villages l2 k jn with
                  | false =>
                    rw [hbo] at hrw
                    have HRW := Lib.hid hrw
                    have HBO := Lib.hid hbo
                    clear hrw hbo
                    go_wp2_with (go_at_call 87; refine HRW.out.mono ?_; rintro e w3 ⟨rfl, hB3⟩)
                    go_roundw
                    case rel =>
                      refine ⟨jn + 1, by omega, by omega, by go_num, .inl ⟨rfl, rfl, hMc.call hB3 (by omega), fun b hb1 hb2 => ?_⟩⟩
                      by_cases e : b = jn
                      · subst e; exact HBO.out
                      · exact HPRE2.out b hb1 (by omega)
                    case measure => simp [intOf]; omega
                  | true =>
                    rw [hbo] at hrw
                    have HRW := Lib.hid hrw
                    have HBO := Lib.hid hbo
                    clear hrw hbo
                    go_wp2_with (go_at_call 87; refine HRW.out.mono ?_; rintro e w3 ⟨rfl, hB3⟩)
                    have hM3 := hMc.call hB3 (by omega)
                    have hz3 := hB3.size
                    clear hxc c0 c1 hMc hMb hM
                    obtain ⟨x, hx⟩ : ∃ x, x = l2[k] := ⟨_, rfl⟩
                    obtain ⟨y, hy⟩ : ∃ y, y = l2[jn] := ⟨_, rfl⟩
                    have d1 := own_cell hM3.own k hkl2
                    have d2 := own_cell hM3.own jn hjl2
                    rw [← hx] at d1
                    rw [← hy] at d2
                    have HX := Lib.hid hx
                    have HY := Lib.hid hy
                    clear hx hy
                    go_quiet (fail)
                    rename_i nq
                    have O4 := Own.drewN hM3.own nq
                    have G4 : GOwn B (w3.drewN nq) o0 out := hM3.out.step (Nat.le_refl _) (fun _ _ _ => rfl)
                    have B4 : Below w1.heap.size w1 (w3.drewN nq) := below_drewN hM3.bel nq
                    have z4 : B ≤ (w3.drewN nq).heap.size := hM3.sz
                    clear hM3 d1 d2 hB3 hz3
                    generalize w3.drewN nq = w4 at *
                    have d1 := own_cell O4 k hkl2
                    have f1 := own_free O4 k
                    have O5 := own_set O4 k y
                    have d2 := own_cell O5 jn (by simpa using hjl2)
                    have f2 := own_free O5 jn
                    have O6 := own_set O5 jn x
                    have hsw : (l2.set k y).set jn x = swapAt l2 (k, jn) := by
                      rw [swapAt, HX.out, HY.out]
                      simp only [List.getD_eq_getElem?_getD, List.getElem?_eq_getElem hkl2, List.getElem?_eq_getElem hjl2, Option.getD_some]
                    rw [hsw] at O6
                    have B6 : Below w1.heap.size w1 ((w4.setCell ⟨g, k, none⟩ (.int .i64 y)).setCell ⟨g, jn, none⟩ (.int .i64 x)) := (B4.setCell hg1 _).setCell hg1 _
                    have G6 : GOwn B ((w4.setCell ⟨g, k, none⟩ (.int .i64 y)).setCell ⟨g, jn, none⟩ (.int .i64 x)) o0 out := G4.step (by simp [World.setCell]) (fun q hq _ => by
                      rw [Below.heap_setCell _ _ _ q (show q ≠ g by omega), Below.heap_setCell _ _ _ q (show q ≠ g by omega)])
                    have z6 : B ≤ ((w4.setCell ⟨g, k, none⟩ (.int .i64 y)).setCell ⟨g, jn, none⟩ (.int .i64 x)).heap.size := by simpa [World.setCell] using z4
                    clear hsw G4 B4 z4 O4 O5
                    go_upto_region 18 with fail
                    clear d1 d2 f1 f2
                    generalize (w4.setCell ⟨g, k, none⟩ (.int .i64 y)).setCell ⟨g, jn, none⟩ (.int .i64 x) = w6 at *
                    obtain ⟨vs, hvs1, ho, hrows⟩ := G6
                    obtain ⟨ao, cp, rfl⟩ := own_slice ho
                    have ho2 := Own.alloc (Own.alloc ho (.cells #[.int .i64 k, .int .i64 jn] 3)) (.cells #[.slice (some ⟨w6.heap.size, 0, none⟩) 2 2] 22)
                    have ha := arr_one (w6.alloc (.cells #[.int .i64 k, .int .i64 jn] 3)) 22 (.slice (some ⟨w6.heap.size, 0, none⟩) 2 2)
                    have hsz2 : (w6.alloc (.cells #[.int .i64 k, .int .i64 jn] 3)).heap.size = w6.heap.size + 1 := by simp
                    rw [hsz2] at ha
                    go_wp2_with (at_builtin; refine wpList_append_arr rfl _ _ 35 rfl 22 (.slice none 0 0) 1 24 Try.under35 Try.info22 rfl (by decide) (by decide) (by simp; omega) ho2 rfl ha rfl rfl (one_slice _ _ _) (by omega) ?_; intro v' w7 hown hT)
                    have ho7 : Own B w7 22 1 v' (out.length + 1) (vs ++ [.slice (some ⟨w6.heap.size, 0, none⟩) 2 2]) := hown
                    have hvs : sliceLen v' = out.length + 1 := by
                      obtain ⟨ao', cp', hv'⟩ := own_slice ho7
                      rw [hv']; rfl
                    have HVS := Lib.hid hvs
                    clear hvs
                    have hG7 := gpush hvs1 ho hrows z6 (k : Int) (jn : Int) ho7 hT
                    have O7 : Own w1.heap.size w7 3 1 (.slice (some ⟨g, 0, none⟩) l.length cap) l.length (I64 (swapAt l2 (k, jn))) := (Own.alloc (Own.alloc O6 _) _).step fun q hq _ hl => hT.block q hl (fun e => by
                      have h1 := (ho2.lt q e).1
                      simp [Value.ownBlock] at hq
                      omega)
                    have B7 : Below w1.heap.size w1 w7 := hT.below2 ho2 ((B6.alloc (by omega) _).alloc (by simp; omega) _) (by simp; omega) hwB
                    have z7 : B ≤ w7.heap.size := by have := hT.size; simp at this; omega
                    have hiw : IsWant c.villages l2 (k, jn) := .inr ⟨hkj, hjl2, HBO.out, fun a b hab hb hlt => by
                      rcases hlt with h | ⟨h, h2⟩
                      · exact HPRE.out a b h hab (by rw [HL2.out] at hb; exact hb)
                      · subst h; exact HPRE2.out b hab h2⟩
                    clear hown hT ho ho2 ha ho7 hrows O6 B6
                    go_wp2
                    go_roundw
                    case rel => exact ⟨jn + 1, by omega, by omega, by go_num, .inr ⟨rfl, (k, jn), hiw, hkj, hjl, HBO.out, ⟨O7, hG7, z7, B7⟩, HVS.out⟩⟩
                    case measure => simp [intOf]; omega
                · obtain rfl : jn = l.length := by omega
                  go_wp2
                  go_roundw
                  case rel =>
                    refine ⟨k + 1, by omega, by go_num, .inl ⟨rfl, rfl, hMc, fun a b ha hab hb => ?_⟩⟩
                    by_cases e : a = k
                    · subst e; exact HPRE2.out b hab hb
                    · exact HPRE.out a b (by omega) hab hb
                  case measure => simp [intOf]; omega
              · by_cases hjl : jn < l.length
                all_goals
                  go_wp2
                  go_roundw
                  case rel => exact ⟨k + 1, by omega, by go_num, .inr ⟨rfl, hDn⟩⟩
                  case measure => simp [intOf]; omega
          · obtain rfl : k = l.length := by omega
            have hw0 : wantF c.villages l2 = (0, 0) := IsWant.unique (wantF_is _ _) (.inl ⟨rfl, fun a b hab hb => HPRE.out a b (by rw [HL2.out] at hb; omega) hab (by rw [HL2.out] at hb; exact hb)⟩)
            have HW0 := Lib.hid hw0
            clear hw0
            go_wp2
            go_roundw
            case rel => exact ⟨l2, out, kk, false, rfl, HL2.out, HP2.out, HTR.out, hpk, hpot, (fun _ => HW0.out), hMb, HSL.out⟩
            case measure => simp [boolN]
        · obtain ⟨p, hpw, hp12, hpn, hbo, hMd, hsd⟩ := hDn
          have hne : wantF c.villages l2 ≠ (0, 0) := by
            rw [IsWant.unique (wantF_is _ _) hpw]
            intro h
            rw [h] at hp12
            simp at hp12
          have hps : pot c.villages (swapAt l2 p) < pot c.villages l2 := pot_swap (vs := c.villages) (l := l2) (i := p.1) (j := p.2) (by rw [HL2.out]; exact HLK.out) (by rw [HL2.out]; exact HVL.out) (by rw [HL2.out]; exact HP2.out) hp12 (by rw [HL2.out]; exact hpn) hbo
          have hsn := HTR.out
          obtain ⟨k1, hk1⟩ : ∃ k1, kk = k1 + 1 := ⟨kk - 1, by omega⟩
          rw [hk1, swapsN, if_neg hne, IsWant.unique (wantF_is _ _) hpw] at hsn
          have hsp := swapAt_perm HP2.out hp12 (by rw [HL2.out]; exact hpn)
          have HSN := Lib.hid hsn
          have HSP := Lib.hid hsp
          have HPS := Lib.hid hps
          have HK1 := Lib.hid hk1
          have HSD := Lib.hid hsd
          clear hsn hsp hps hk1 hsd hne hpw hbo
          by_cases hlt : k < l.length
          all_goals
            go_wp2
            go_roundw
            case rel => exact ⟨swapAt l2 p, out ++ [[(p.1 : Int), (p.2 : Int)]], k1, true, rfl, by rw [swapAt_len]; exact HL2.out, HSP.out, HSN.out, by have := HPS.out; have := HK1.out; omega, by have := HK1.out; rw [List.length_append]; simp; omega, (fun h => by cases h), hMd, by rw [HSD.out]; simp⟩
            case measure =>
              have h1 := HSD.out
              have h2 := HSL.out
              have h3 := HK1.out
              simp only [boolN, h1, h2]
              omega

end Go.Proofs.Ythchpoabncdicaa
