/- Which of two lists of years has less envy first (mestaref08.calmer); conditions: valid commons, divisions, as many in both. -/
import Derived.Test.YthchpoabncdicaaRF4
namespace Go.Proofs.Ythchpoabncdicaa
open Go.RowKit

/-- Less envy in the first year, from the k-th on, in which they differ. -/
def calmF (vs : List Vil) : List (List Int) → List (List Int) → Bool
  | a :: s, b :: t => if rkS vs a vs.length = rkS vs b vs.length then calmF vs s t else decide (rkS vs a vs.length < rkS vs b vs.length)
  | _, _ => false
theorem calmF_at {vs : List Vil} {s t : List (List Int)} {k : Nat} (h1 : k < s.length) (h2 : k < t.length) : calmF vs (s.drop k) (t.drop k) = if rkS vs s[k] vs.length = rkS vs t[k] vs.length then calmF vs (s.drop (k + 1)) (t.drop (k + 1)) else decide (rkS vs s[k] vs.length < rkS vs t[k] vs.length) := by
  rw [List.drop_eq_getElem_cons h1, List.drop_eq_getElem_cons h2, calmF]
def CaS (b : Nat) (vm vv : Value) (b1 o1 : Nat) (r : Value) (w : World) : Prop := Blk b #[vm, vv] 25 w ∧ w.cell? ⟨b1, o1, none⟩ = some r
theorem CaS.drew {b : Nat} {vm vv : Value} {b1 o1 : Nat} {r : Value} {w : World} (h : CaS b vm vv b1 o1 r w) : CaS b vm vv b1 o1 r w.drew := h

set_option maxRecDepth 100000 in
set_option maxHeartbeats 2000000 in
theorem rcalmer_c {A A1 A2 : Nat → Prop} {w : World} {vm vv v1 v2 : Value} {c : Com} {s t : List (List Int)} (h : Cm A w vm vv c) (hok : c.Ok 4) (h1 : Grid A1 w v1 s) (h2 : Grid A2 w v2 t) (hs : ∀ a ∈ s, PermOf c.villages.length a) (ht : ∀ a ∈ t, PermOf c.villages.length a) (hl : t.length = s.length) (hs4 : s.length ≤ 4) :
    Calls Try.prog 96 #[.agg #[vm, vv], v1, v2] w fun e w' => e = .returned (.bool (calmF c.villages s t)) ∧ Below w.heap.size w w' := by
  obtain ⟨am, cpm, rfl, _, _⟩ := h.1.shape
  obtain ⟨av, cpv, rfl, _, _⟩ := h.2.shape
  obtain ⟨a1, c1, rfl, _, _⟩ := h1.shape
  obtain ⟨a2, c2, rfl, _, _⟩ := h2.shape
  have hB0 : Below w.heap.size w (w.alloc (.cells #[.slice am c.mountains.length cpm, .slice av c.villages.length cpv] 25)) := (Below.refl _ w).alloc (Nat.le_refl _) _
  have hx : Blk w.heap.size #[.slice am c.mountains.length cpm, .slice av c.villages.length cpv] 25 (w.alloc (.cells #[.slice am c.mountains.length cpm, .slice av c.villages.length cpv] 25)) := Blk.new w _ _
  have h0 := h.call hB0
  have g1 := h1.call hB0
  have g2 := h2.call hB0
  obtain ⟨R, hR⟩ : ∃ R, R = calmF c.villages s t := ⟨_, rfl⟩
  rw [← hR]
  have HR := Lib.hid hR
  have HS := Lib.hid hs
  have HT := Lib.hid ht
  have hl1 : t.length ≤ s.length := by omega
  have hl2 : s.length ≤ t.length := by omega
  clear hR hs ht hl
  go_enter Try.func96, Try.ntmps96
  go_wp2_with fail
  generalize w.alloc (.cells #[.slice am c.mountains.length cpm, .slice av c.villages.length cpv] 25) = w0 at *
  go_loopw [7] (fun i wr => ∃ k : Nat, k ≤ s.length ∧ i = .int .i64 k ∧ calmF c.villages s t = calmF c.villages (s.drop k) (t.drop k) ∧ Below w0.heap.size w0 wr) (fun i _ => s.length - (intOf i).toNat)
  case atStart => exact ⟨0, Nat.zero_le _, rfl, by simp, Below.refl _ _⟩
  case round =>
    obtain ⟨k, hk, rfl, hcf, hB⟩ := hrel
    by_cases hks : k < s.length
    · have hkt : k < t.length := by omega
      rw [calmF_at hks hkt] at hcf
      obtain ⟨b1, o1, rfl, -, hb1⟩ := g1.addr (by omega)
      obtain ⟨b2, o2, rfl, -, hb2⟩ := g2.addr (by omega)
      obtain ⟨ra, ca, r1, hra⟩ := g1.row k hks
      obtain ⟨rb, cb, r2, hrb⟩ := g2.row k hkt
      have hpa := HS.out _ (List.getElem_mem hks)
      have hpb := HT.out _ (List.getElem_mem hkt)
      rw [hpa.len] at r1 hra
      rw [hpb.len] at r2 hrb
      have hE1 : ∀ w', Below w0.heap.size w0 w' → (CaS w.heap.size (.slice am c.mountains.length cpm) (.slice av c.villages.length cpv) b1 (o1 + k) (.slice ra c.villages.length ca)) w' := fun w' h => ⟨hx.call h, (World.cell?_of_block (h.block b1 hb1)).trans r1⟩
      have hE2 : ∀ w', Below w0.heap.size w0 w' → (CaS w.heap.size (.slice am c.mountains.length cpm) (.slice av c.villages.length cpv) b2 (o2 + k) (.slice rb c.villages.length cb)) w' := fun w' h => ⟨hx.call h, (World.cell?_of_block (h.block b2 hb2)).trans r2⟩
      obtain ⟨p, hp⟩ : ∃ p, p = rkS c.villages (s[k]'hks) c.villages.length := ⟨_, rfl⟩
      obtain ⟨q, hq⟩ : ∃ q, q = rkS c.villages (t[k]'hkt) c.villages.length := ⟨_, rfl⟩
      rw [← hp, ← hq] at hcf
      have HCF := Lib.hid hcf
      have HP := Lib.hid hp
      have HQ := Lib.hid hq
      clear r1 r2 hcf hp hq
      go_wp2_with fail
      refine wp_region_mix2 (.one 0 (.pur 1 (.pur 2 (.pur 3 (.one 4 (.act 5 (.pur 6 (.pur 7 (.pur 8 (.pur 9 (.pur 10 .fin))))))))))) 99 (CaS w.heap.size (.slice am c.mountains.length cpm) (.slice av c.villages.length cpv) b1 (o1 + k) (.slice ra c.villages.length ca)) (fun _ => True) (by kernel_rfl) (by kernel_rfl) rfl (by kernel_rfl) (hE1 _ hB).drew (fun wd hqd _ => ?_)
      have hBd : Below w0.heap.size w0 wd := hB.trans (hqd.below _)
      refine mix_load2 rfl rfl rfl (.agg #[.slice am c.mountains.length cpm, .slice av c.villages.length cpv]) (fun w' h => by have h : (CaS w.heap.size (.slice am c.mountains.length cpm) (.slice av c.villages.length cpv) b1 (o1 + k) (.slice ra c.villages.length ca)) w' := h; have h0 := h.1.cell 0; have h1 := h.1.cell 1; go_simp) rfl ?_
      refine mix_pur2 rfl (fun K hK => ?_)
      go_simp
      first | refine ⟨_, fun _ => rfl, hK _ ?_⟩ | refine hK _ ?_
      clear hK K
      refine mix_pur2 rfl (fun K hK => ?_)
      go_simp
      first | refine ⟨_, fun _ => rfl, hK _ ?_⟩ | refine hK _ ?_
      clear hK K
      refine mix_pur2 rfl (fun K hK => ?_)
      go_simp
      first | refine ⟨_, fun _ => rfl, hK _ ?_⟩ | refine hK _ ?_
      clear hK K
      refine mix_loadg2 rfl rfl (.slice ra c.villages.length ca) (by go_simp) (fun w' h => by have h : (CaS w.heap.size (.slice am c.mountains.length cpm) (.slice av c.villages.length cpv) b1 (o1 + k) (.slice ra c.villages.length ca)) w' := h; have h0 := h.2; go_simp) rfl ?_
      refine mix_eff2 rfl false rfl (fun K hK => ?_)
      go_simp
      refine (rsums_c (h0.call hBd) hok (hra.call hBd) hpa).mono ?_
      rintro e w8 ⟨rfl, hCw8⟩
      have hBw8 := hBd.trans (hCw8.mono hBd.size)
      refine hK _ _ (hE1 _ hBw8) ?_
      clear hK K
      refine mix_pur2 rfl (fun K hK => ?_)
      go_simp
      first | refine ⟨_, fun _ => rfl, hK _ ?_⟩ | refine hK _ ?_
      clear hK K
      refine mix_pur2 rfl (fun K hK => ?_)
      go_simp
      first | refine ⟨_, fun _ => rfl, hK _ ?_⟩ | refine hK _ ?_
      clear hK K
      refine mix_pur2 rfl (fun K hK => ?_)
      go_simp
      first | refine ⟨_, fun _ => rfl, hK _ ?_⟩ | refine hK _ ?_
      clear hK K
      refine mix_pur2 rfl (fun K hK => ?_)
      go_simp
      first | refine ⟨_, fun _ => rfl, hK _ ?_⟩ | refine hK _ ?_
      clear hK K
      refine mix_pur2 rfl (fun K hK => ?_)
      go_simp
      first | refine ⟨_, fun _ => rfl, hK _ ?_⟩ | refine hK _ ?_
      clear hK K
      refine mix_done2 ?_
      go_wp2_with fail
      clear hqd hBd
      refine wp_region_mix2 (.one 0 (.pur 1 (.pur 2 (.pur 3 (.one 4 (.act 5 (.pur 6 (.pur 7 (.pur 8 (.pur 9 (.pur 10 .fin))))))))))) 99 (CaS w.heap.size (.slice am c.mountains.length cpm) (.slice av c.villages.length cpv) b2 (o2 + k) (.slice rb c.villages.length cb)) (fun _ => True) (by kernel_rfl) (by kernel_rfl) rfl (by kernel_rfl) (hE2 _ hBw8).drew (fun wd hqd _ => ?_)
      have hBd : Below w0.heap.size w0 wd := hBw8.trans (hqd.below _)
      refine mix_load2 rfl rfl rfl (.agg #[.slice am c.mountains.length cpm, .slice av c.villages.length cpv]) (fun w' h => by have h : (CaS w.heap.size (.slice am c.mountains.length cpm) (.slice av c.villages.length cpv) b2 (o2 + k) (.slice rb c.villages.length cb)) w' := h; have h0 := h.1.cell 0; have h1 := h.1.cell 1; go_simp) rfl ?_
      refine mix_pur2 rfl (fun K hK => ?_)
      go_simp
      first | refine ⟨_, fun _ => rfl, hK _ ?_⟩ | refine hK _ ?_
      clear hK K
      refine mix_pur2 rfl (fun K hK => ?_)
      go_simp
      first | refine ⟨_, fun _ => rfl, hK _ ?_⟩ | refine hK _ ?_
      clear hK K
      refine mix_pur2 rfl (fun K hK => ?_)
      go_simp
      first | refine ⟨_, fun _ => rfl, hK _ ?_⟩ | refine hK _ ?_
      clear hK K
      refine mix_loadg2 rfl rfl (.slice rb c.villages.length cb) (by go_simp) (fun w' h => by have h : (CaS w.heap.size (.slice am c.mountains.length cpm) (.slice av c.villages.length cpv) b2 (o2 + k) (.slice rb c.villages.length cb)) w' := h; have h0 := h.2; go_simp) rfl ?_
      refine mix_eff2 rfl false rfl (fun K hK => ?_)
      go_simp
      refine (rsums_c (h0.call hBd) hok (hrb.call hBd) hpb).mono ?_
      rintro e w9 ⟨rfl, hCw9⟩
      have hBw9 := hBd.trans (hCw9.mono hBd.size)
      refine hK _ _ (hE2 _ hBw9) ?_
      clear hK K
      refine mix_pur2 rfl (fun K hK => ?_)
      go_simp
      first | refine ⟨_, fun _ => rfl, hK _ ?_⟩ | refine hK _ ?_
      clear hK K
      refine mix_pur2 rfl (fun K hK => ?_)
      go_simp
      first | refine ⟨_, fun _ => rfl, hK _ ?_⟩ | refine hK _ ?_
      clear hK K
      refine mix_pur2 rfl (fun K hK => ?_)
      go_simp
      first | refine ⟨_, fun _ => rfl, hK _ ?_⟩ | refine hK _ ?_
      clear hK K
      refine mix_pur2 rfl (fun K hK => ?_)
      go_simp
      first | refine ⟨_, fun _ => rfl, hK _ ?_⟩ | refine hK _ ?_
      clear hK K
      refine mix_pur2 rfl (fun K hK => ?_)
      go_simp
      first | refine ⟨_, fun _ => rfl, hK _ ?_⟩ | refine hK _ ?_
      clear hK K
      refine mix_done2 ?_
      rw [← HP.out, ← HQ.out]
      by_cases hpq : p = q
      · have hcf := HCF.out
        rw [if_pos hpq] at hcf
        have HC2 := Lib.hid hcf
        subst hpq
        have bb : (p != p) = false := by simp
        clear hcf
        go_wp2_with fail
        go_roundw
        case rel => exact ⟨k + 1, by omega, by go_num, HC2.out, hBw9⟩
        case measure => simp [intOf]; omega
      · have hcf := HCF.out
        rw [if_neg hpq, ← HR.out] at hcf
        have HC2 := Lib.hid hcf
        have bb : (p != q) = true := by simpa using hpq
        clear hcf
        go_wp2_with fail
        go_ret
        exact ⟨ret_bool (by rw [HC2.out]), bnx hB0 hBw9⟩
    · obtain rfl : k = s.length := by omega
      have hd : calmF c.villages (s.drop s.length) (t.drop s.length) = false := by rw [List.drop_length]; simp [calmF]
      rw [hd, ← HR.out] at hcf
      have HC2 := Lib.hid hcf
      clear hcf hd
      go_wp2
      go_ret
      exact ⟨ret_bool (by rw [HC2.out]), bnx hB0 hB⟩

end Go.Proofs.Ythchpoabncdicaa
