/- The cycle of years, as mestaref08 finds it; conditions: valid commons of at most four mountains. -/
import Derived.Test.YthchpoabncdicaaRF7
namespace Go.Proofs.Ythchpoabncdicaa
open Go.RowKit

theorem cycL_mem {n : Nat} : ∀ r b s, s ∈ cycL n r b → s.length = b.length + r ∧ ∀ a ∈ s, a ∈ b ∨ a ∈ exts n n []
  | 0, b, s, h => by
    rw [cycL, List.mem_singleton] at h
    subst h
    exact ⟨rfl, fun a ha => .inl ha⟩
  | r + 1, b, s, h => by
    rw [cycL, List.mem_flatMap] at h
    obtain ⟨d, hd, h⟩ := h
    split at h
    · obtain ⟨h1, h2⟩ := cycL_mem r _ s h
      refine ⟨by rw [h1, List.length_append, List.length_singleton]; omega, fun a ha => ?_⟩
      rcases h2 a ha with h3 | h3
      · rcases List.mem_append.1 h3 with h3 | h3
        · exact .inl h3
        · rw [List.mem_singleton] at h3; subst h3; exact .inr hd
      · exact .inr h3
    · simp at h
theorem exts_perm {n : Nat} (hn : n ≤ 4) : ∀ l ∈ exts n n [], PermOf n l := by
  have h : ∀ n < 5, ∀ l ∈ exts n n [], l.isPerm (iota n) = true := by decide +kernel
  exact fun l hl => List.isPerm_iff.1 (h n (by omega) l hl)
set_option maxRecDepth 1000000 in
theorem cycL_some {n : Nat} (hn : n ≤ 4) : 0 < (cycL n n []).length := by
  have h : ∀ n < 5, 0 < (cycL n n []).length := by decide +kernel
  exact h n (by omega)
/-- The first with the least envy of the first k + 1. -/
def bestC (vs : List Vil) (L : List (List (List Int))) : Nat → List (List Int)
  | 0 => L.getD 0 []
  | k + 1 => if calmF vs (L.getD (k + 1) []) (bestC vs L k) then L.getD (k + 1) [] else bestC vs L k
theorem bestC_mem (vs : List Vil) (L : List (List (List Int))) : ∀ k, k < L.length → bestC vs L k ∈ L
  | 0, h => by rw [bestC, List.getD_eq_getElem?_getD, List.getElem?_eq_getElem h]; exact List.getElem_mem h
  | k + 1, h => by
    rw [bestC]
    split
    · rw [List.getD_eq_getElem?_getD, List.getElem?_eq_getElem h]; exact List.getElem_mem h
    · exact bestC_mem vs L k (by omega)
def rfairF (c : Com) : List (List Int) := bestC c.villages (cycL c.villages.length c.villages.length []) ((cycL c.villages.length c.villages.length []).length - 1)
theorem Cube.addr {A : Nat → Prop} {w : World} {ao : Option Addr} {n cap : Nat} {l : List (List (List Int))} (h : Cube A w (.slice ao n cap) l) (hx : 0 < l.length) :
    ∃ b off, ao = some ⟨b, off, none⟩ ∧ A b ∧ b < w.heap.size ∧ ∀ j (hj : j < l.length), ∃ ar cr, w.cell? ⟨b, off + j, none⟩ = some (.slice ar l[j].length cr) ∧ Grid A w (.slice ar l[j].length cr) l[j] := by
  obtain ⟨vs, h0, ⟨ao', cap', hv, h1, h2, h3⟩, h4⟩ := h
  injection hv with e1 e2 e3
  subst e1
  rcases h3 with h3 | ⟨b, off, he, hA, hl, hc⟩
  · rw [h3] at h0; simp at h0; omega
  · refine ⟨b, off, he, hA, hl, fun j hj => ?_⟩
    have h5 := h4 j (by omega) hj
    obtain ⟨ar, cr, he2, _⟩ := h5.shape
    rw [he2] at h5
    exact ⟨ar, cr, (hc j vs[j] (List.getElem?_eq_getElem (by omega))).trans (by rw [he2]), h5⟩

set_option maxRecDepth 100000 in
set_option maxHeartbeats 4000000 in
theorem rfair_good {A : Nat → Prop} {w : World} {vm vv : Value} {c : Com} (h : Cm A w vm vv c) (hok : c.Ok 4) :
    Calls Try.prog 36 #[.agg #[vm, vv]] w fun e w' => ∃ v', e = .returned (.tuple #[v', .int .i64 0]) ∧ Grid (fun _ => True) w' v' (rfairF c) ∧ Below w.heap.size w w' := by
  obtain ⟨am, cpm, rfl, _, _⟩ := h.1.shape
  obtain ⟨av, cpv, rfl, _, _⟩ := h.2.shape
  have hvl4 : c.villages.length ≤ 4 := by have := hok.vl; have := hok.n2; omega
  have hmv : c.mountains.length = c.villages.length := hok.vl.symm
  have hB0 : Below w.heap.size w (w.alloc (.cells #[.slice am c.mountains.length cpm, .slice av c.villages.length cpv] 25)) := (Below.refl _ w).alloc (Nat.le_refl _) _
  have hx : Blk w.heap.size #[.slice am c.mountains.length cpm, .slice av c.villages.length cpv] 25 (w.alloc (.cells #[.slice am c.mountains.length cpm, .slice av c.villages.length cpv] 25)) := Blk.new w _ _
  have h0 := h.call hB0
  have hck : checkE c = 0 := (checkE_zero c).2 hok
  have hsome := cycL_some (n := c.villages.length) hvl4
  have hmem := fun s hs => cycL_mem (n := c.villages.length) c.villages.length [] s hs
  have hper := exts_perm (n := c.villages.length) hvl4
  have hlen := cycL_len hvl4 c.villages.length []
  have hlen2 : 24 ^ c.villages.length ≤ 24 ^ 4 := Nat.pow_le_pow_right (by omega) hvl4
  have hcy := fun w' => rcycles_c hvl4 c.villages.length [] w' (.slice none 0 0) (fun _ => False) (grid_nil _ _) (by simp) (by simp)
  rw [← hmv] at hcy
  have hrf : rfairF c = bestC c.villages (cycL c.villages.length c.villages.length []) ((cycL c.villages.length c.villages.length []).length - 1) := rfl
  rw [hmv] at hcy
  generalize cycL c.villages.length c.villages.length [] = LL at hsome hmem hlen hcy hrf
  have hLl : LL.length ≤ 331776 := by omega
  have HCK := Lib.hid hck
  have HMV := Lib.hid hmv
  have HMEM := Lib.hid hmem
  have HPER := Lib.hid hper
  have HCY := Lib.hid hcy
  have HRF := Lib.hid hrf
  clear hck hmv hmem hper hlen hlen2 hcy hrf
  go_enter Try.func36, Try.ntmps36
  go_wp2_with fail
  refine (rcheck_c h0).mono ?_
  rintro e w1 ⟨rfl, hB1⟩
  rw [HCK.out]
  have b0 : ((0 : Int) != 0) = false := rfl
  have hx1 := hx.call hB1
  have h1 := h0.call hB1
  have hT1 := bnx hB0 hB1
  have c0 := hx1.cell 0
  go_wp2_with fail
  clear c0
  rw [HMV.out]
  refine (HCY.out w1).mono ?_
  rintro e w2 ⟨vL, rfl, hLc, hB2⟩
  have h2 := h1.call hB2
  have hx2 := hx1.call hB2
  have hT2 := bnx hT1 hB2
  obtain ⟨aL, cL, rfl, _, _⟩ := hLc.shape
  obtain ⟨bl, ol, rfl, -, hbl, hrows⟩ := hLc.addr hsome
  have HROWS := Lib.hid hrows
  obtain ⟨a0, c0', q0, hg0⟩ := hrows 0 hsome
  clear hrows
  rw [Nat.add_zero] at q0
  have hl0 : LL[0].length = c.villages.length := by have := (HMEM.out _ (List.getElem_mem hsome)).1; simpa using this
  rw [hl0] at q0 hg0
  have hb0 : bestC c.villages LL 0 = LL[0] := by rw [bestC]; simp [hsome]
  rw [← hb0] at hg0
  clear hl0 hb0
  go_wp2_with fail
  clear q0
  go_loopw [6, 7] (fun s6 s7 wr => ∃ (k : Nat) (ab : Option Addr) (cb : Nat), 1 ≤ k ∧ k ≤ LL.length ∧ s7 = .int .i64 k ∧ s6 = .slice ab c.villages.length cb ∧ Grid (fun _ => True) wr (.slice ab c.villages.length cb) (bestC c.villages LL (k - 1)) ∧ Below w2.heap.size w2 wr) (fun _ s7 _ => LL.length - (intOf s7).toNat)
  case atStart => exact ⟨1, a0, c0', Nat.le_refl _, by omega, rfl, rfl, hg0.wide (fun _ _ _ => trivial), Below.refl _ _⟩
  case round =>
    obtain ⟨k, ab, cb, hk1, hk2, rfl, rfl, hbv, hB⟩ := hrel
    by_cases hkl : k < LL.length
    · obtain ⟨ar, cr, r1, hrow⟩ := HROWS.out k hkl
      have hsk := HMEM.out _ (List.getElem_mem hkl)
      have hlk : LL[k].length = c.villages.length := by have := hsk.1; simpa using this
      rw [hlk] at r1 hrow
      have hbm := HMEM.out _ (bestC_mem c.villages LL (k - 1) (by omega))
      have hp1 : ∀ a ∈ LL[k], PermOf c.villages.length a := fun a ha => HPER.out a ((hsk.2 a ha).resolve_left (by simp))
      have hp2 : ∀ a ∈ bestC c.villages LL (k - 1), PermOf c.villages.length a := fun a ha => HPER.out a ((hbm.2 a ha).resolve_left (by simp))
      have hln : (bestC c.villages LL (k - 1)).length = LL[k].length := by rw [hlk]; have := hbm.1; simpa using this
      have hl4 : LL[k].length ≤ 4 := by omega
      have hE : ∀ w', Below w2.heap.size w2 w' → (CaS w.heap.size (.slice am c.mountains.length cpm) (.slice av c.villages.length cpv) bl (ol + k) (.slice ar c.villages.length cr)) w' := fun w' h => ⟨hx2.call h, (World.cell?_of_block (h.block bl hbl)).trans r1⟩
      have hst : bestC c.villages LL k = if calmF c.villages LL[k] (bestC c.villages LL (k - 1)) then LL[k] else bestC c.villages LL (k - 1) := by
        obtain ⟨j, rfl⟩ : ∃ j, k = j + 1 := ⟨k - 1, by omega⟩
        rw [bestC, Nat.add_sub_cancel]; simp [hkl]
      have HST := Lib.hid hst
      have HP1 := Lib.hid hp1
      have HP2 := Lib.hid hp2
      have HLN := Lib.hid hln
      clear r1 hst hsk hbm hlk hp1 hp2 hln
      go_wp2_with fail
      refine wp_region_mix2 (.one 0 (.pur 1 (.pur 2 (.pur 3 (.one 4 (.pur 5 (.act 6 .fin))))))) 99 (CaS w.heap.size (.slice am c.mountains.length cpm) (.slice av c.villages.length cpv) bl (ol + k) (.slice ar c.villages.length cr)) (fun _ => True) (by kernel_rfl) (by kernel_rfl) rfl (by kernel_rfl) (hE _ hB).drew (fun wd hqd _ => ?_)
      have hBd : Below w2.heap.size w2 wd := hB.trans (hqd.below _)
      refine mix_load2 rfl rfl rfl (.agg #[.slice am c.mountains.length cpm, .slice av c.villages.length cpv]) (fun w' h => by have h : (CaS w.heap.size (.slice am c.mountains.length cpm) (.slice av c.villages.length cpv) bl (ol + k) (.slice ar c.villages.length cr)) w' := h; have h0 := h.1.cell 0; have h1 := h.1.cell 1; go_simp) rfl ?_
      refine mix_pur2 rfl (fun K hK => ?_)
      go_simp
      first | refine ⟨_, fun _ => rfl, hK _ ?_⟩ | refine hK _ ?_
      clear hK K
      refine mix_pur2 rfl (fun K hK => ?_)
      go_simp
      first | refine ⟨_, fun _ => rfl, hK _ ?_⟩ | refine hK _ ?_
      clear hK K
      refine mix_pur2 rfl (fun K hK => ?_)
      go_simp
      first | refine ⟨_, fun _ => rfl, hK _ ?_⟩ | refine hK _ ?_
      clear hK K
      refine mix_loadg2 rfl rfl (.slice ar c.villages.length cr) (by go_simp) (fun w' h => by have h : (CaS w.heap.size (.slice am c.mountains.length cpm) (.slice av c.villages.length cpv) bl (ol + k) (.slice ar c.villages.length cr)) w' := h; have h0 := h.2; go_simp) rfl ?_
      refine mix_pur2 rfl (fun K hK => ?_)
      go_simp
      first | refine ⟨_, fun _ => rfl, hK _ ?_⟩ | refine hK _ ?_
      clear hK K
      refine mix_eff2 rfl false rfl (fun K hK => ?_)
      go_simp
      refine (rcalmer_c (h2.call hBd) hok (hrow.call hBd) (hbv.call (hqd.below _)) HP1.out HP2.out HLN.out hl4).mono ?_
      rintro e w8 ⟨rfl, hC8⟩
      have hB8 := hBd.trans (hC8.mono hBd.size)
      refine hK _ _ (hE _ hB8) ?_
      clear hK K
      refine mix_done2 ?_
      have hx8 := (hE _ hB8).2
      cases hcm : calmF c.villages LL[k] (bestC c.villages LL (k - 1)) with
      | true =>
        have hst := HST.out
        rw [hcm, if_pos rfl] at hst
        have HST2 := Lib.hid hst
        clear hst hcm
        go_wp2_with fail
        go_roundw
        case rel => exact ⟨k + 1, ar, cr, by omega, by omega, by go_num, rfl, by rw [Nat.add_sub_cancel, HST2.out]; exact (hrow.call hB8).wide (fun _ _ _ => trivial), hB8⟩
        case measure => simp [intOf]; omega
      | false =>
        have hst := HST.out
        rw [hcm, if_neg (by simp)] at hst
        have HST2 := Lib.hid hst
        clear hst hcm
        go_wp2_with fail
        go_roundw
        case rel => exact ⟨k + 1, ab, cb, by omega, by omega, by go_num, rfl, by rw [Nat.add_sub_cancel, HST2.out]; exact (hbv.call (hqd.below _)).call hC8, hB8⟩
        case measure => simp [intOf]; omega
    · obtain rfl : k = LL.length := by omega
      go_wp2
      go_ret2
      exact ⟨_, rfl, by rw [HRF.out]; exact hbv, bnx hT2 hB⟩

end Go.Proofs.Ythchpoabncdicaa
