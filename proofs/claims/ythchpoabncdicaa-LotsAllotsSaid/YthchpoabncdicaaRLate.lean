/- Late of mestaref08, and Late (lots) for any input; conditions: none. -/
import Derived.Test.YthchpoabncdicaaRA1
import Derived.Test.YthchpoabncdicaaLate1
namespace Go.Proofs.Ythchpoabncdicaa
open Go.RowKit

/-- What a round reads. -/
def LrS (b1 o1 : Nat) (p : Int) (b2 o2 : Nat) (q : Int) (w : World) : Prop := w.cell? ⟨b1, o1, none⟩ = some (.int .i64 p) ∧ w.cell? ⟨b2, o2, none⟩ = some (.int .i64 q)
theorem LrS.drew {b1 o1 : Nat} {p : Int} {b2 o2 : Nat} {q : Int} {w : World} (h : LrS b1 o1 p b2 o2 q w) : LrS b1 o1 p b2 o2 q w.drew := h

set_option maxRecDepth 100000 in
set_option maxHeartbeats 2000000 in
theorem rlate_good {A : Nat → Prop} {w : World} {vm vv : Value} {c : Com} (h : Cm A w vm vv c) (hok : c.Ok 4) (x y : Int) (hx : 1 ≤ x ∧ x ≤ 50) (hy : 0 ≤ y ∧ y ≤ 60) (m : Nat) (hm : m ≤ 99) :
    Calls Try.prog 67 #[.agg #[vm, vv], .int .i64 x, .int .i64 y, .int .i64 m] w fun e w' => ∃ v', e = .returned (.tuple #[v', .int .i64 ((allotN (c.villages ++ [⟨x, y, []⟩]) m).getD c.villages.length 0), .int .i64 0]) ∧
      Ints (fun b => w.heap.size ≤ b) w' v' (lateL (allotN c.villages m) (allotN (c.villages ++ [⟨x, y, []⟩]) m) c.villages.length) ∧ Below w.heap.size w w' := by
  obtain ⟨am, cpm, rfl, _, _⟩ := h.1.shape
  obtain ⟨av, cpv, rfl, hvc, hvm⟩ := h.2.shape
  have hvl4 : c.villages.length ≤ 4 := by have := hok.vl; have := hok.n2; omega
  have hvl1 : 0 < c.villages.length := by have := hok.vl; have := hok.n1; omega
  obtain ⟨b0, o0, rfl, _, _⟩ := h.2.addr hvl1
  have hB0 : Below w.heap.size w (w.alloc (.cells #[.slice am c.mountains.length cpm, .slice (some ⟨b0, o0, none⟩) c.villages.length cpv] 25)) := (Below.refl _ w).alloc (Nat.le_refl _) _
  have hX : Blk w.heap.size #[.slice am c.mountains.length cpm, .slice (some ⟨b0, o0, none⟩) c.villages.length cpv] 25 (w.alloc (.cells #[.slice am c.mountains.length cpm, .slice (some ⟨b0, o0, none⟩) c.villages.length cpv] 25)) := Blk.new w _ _
  have h0 := h.call hB0
  have hpe : placesErrE c m = 0 := placesErr_of hok hm
  have hvok := hok.vok
  have hvok2 : VOk (c.villages ++ [⟨x, y, []⟩]) := by
    intro v hv
    rcases List.mem_append.1 hv with hv | hv
    · exact hvok v hv
    · rw [List.mem_singleton] at hv; subst hv; exact ⟨hx.1, hx.2, hy.1, hy.2⟩
  have t1 : btw x 1 50 = true := by simp [btw, hx.1, hx.2]
  have t2 : btw y 0 60 = true := by simp [btw, hy.1, hy.2]
  have HPE := Lib.hid hpe
  have HV := Lib.hid hvok
  have HV2 := Lib.hid hvok2
  clear hpe hvok hvok2
  go_enter Try.func67, Try.ntmps67
  go_wp2_with fail
  refine (rplaces_c h0 _).mono ?_
  rintro e w1 ⟨rfl, hB1⟩
  rw [HPE.out]
  have h1 := h0.call hB1
  have hX1 := hX.call hB1
  have hT1 := bnx hB0 hB1
  clear h0 hX hB0 hB1
  have c1 := hX1.cell 1
  go_wp2_with (go_at_call 111; refine (inside_c _ _ _ _).mono ?_; rintro e w' ⟨rfl, rfl⟩)
  clear c1
  refine (rallot_c h1.2 HV.out (by omega) m (by omega)).mono ?_
  rintro e w2 ⟨vb, rfl, hvb, hB2⟩
  have h2 := h1.call hB2
  have hX2 := hX1.call hB2
  have hT2 := bnx hT1 hB2
  clear h1 hX1 hT1 hB2
  obtain ⟨ls, hls, hcl, hli⟩ := Vils.cells h2.2 hvl1
  have hva2 : Arr (fun _ => True) w2 (.slice (some ⟨b0, o0, none⟩) c.villages.length cpv) c.villages.length (vcells c.villages ls) := by
    obtain ⟨vs2, hz0, hz1, -⟩ := h2.2
    obtain ⟨ao, cap, hz2, hz3, hz4, hz5⟩ := hz1
    injection hz2 with e1 e2 e3
    subst e1; subst e3
    refine ⟨_, _, rfl, hz3, hz4, .inr ⟨b0, o0, rfl, trivial, ?_, fun j u hj => hcl j u hj⟩⟩
    rcases hz5 with hz5 | ⟨b, off, he, _, hb, _⟩
    · have := vcells_len c.villages vs2 hz0
      rw [hz5] at this; simp at this; omega
    · injection he with he; injection he with e1 e2; omega
  have hL3 := (Below.refl w2.heap.size w2).alloc (Nat.le_refl _) (.cells #[] 51)
  have hoe : Own w2.heap.size (w2.alloc (.cells #[] 51)) 51 3 (.slice (some ⟨w2.heap.size, 0, none⟩) 0 0) 0 [] := own_lit w2 51 3 #[] 0 rfl (by omega)
  have hX3 := hX2.call hL3
  have hva3 := hva2.step (by simp) (fun b _ hb => hL3.block b hb)
  have hs3 : (w2.alloc (.cells #[] 51)).heap.size = w2.heap.size + 1 := by simp
  have c1 := hX3.cell 1
  have hone := vcells_one c.villages ls (vils_one hls hli)
  have hvlen := vcells_len c.villages ls hls
  go_wp2_with (at_builtin; first | (refine wpList_append_arr rfl _ _ 23 rfl 51 _ 3 40 Try.underlying23 Try.info51 rfl (by decide) (by decide) (B := w2.heap.size) (by omega) (n := 0) (xs := []) hoe rfl hva3 rfl hvlen hone (by omega) ?_; intro v4 w4 hown4 hT4; rw [List.nil_append, Nat.zero_add] at hown4; obtain ⟨a4, k4, rfl⟩ := own_slice hown4; have hB4 : Below w2.heap.size w2 w4 := hT4.below hoe hL3 (by omega); have hs4 := hT4.size; have hown4' := hown4.alloc (.cells #[.int .i64 x, .int .i64 y, .slice none 0 0] 51); have hnew := Own.arr (own_lit w4 51 3 #[.int .i64 x, .int .i64 y, .slice none 0 0] 1 rfl (by omega)); clear hva3 c1 hoe) | (refine wpList_append_arr rfl _ _ 23 rfl 51 _ 3 40 Try.underlying23 Try.info51 rfl (by decide) (by decide) (B := w2.heap.size) (by simp; omega) hown4' rfl hnew rfl rfl (vil_one x y none 0 0) (by omega) ?_; intro v3 w3 hown hT3))
  have hB3 : Below w2.heap.size w2 w3 := hT3.below hown4' (bal hB4) (by simp; omega)
  have hV3 := Vils.more hls hli hown hB3.size (fun k hk => hB3.block k hk)
  have hT4 := bnx hT2 hB3
  have hvb4 := hvb.call hB3
  clear hcl hli hown hown4 hown4' hT3 hB4 hB3 hL3 hX2 hX3 hT2 hvb h2 hva2 hnew hone hvlen
  have hal := rallot_c hV3 HV2.out (by simp; omega) m (by omega)
  have HAL := Lib.hid hal
  clear hal hV3
  go_wp2_with fail
  refine HAL.out.mono ?_
  rintro e w5 ⟨va, rfl, hva, hB5⟩
  have hT5 := bnx hT4 hB5
  have hvb5 := hvb4.call hB5
  clear HAL hT4 hvb4 hB5
  have hlb := allotN_len c.villages m
  have hla := allotN_len (c.villages ++ [⟨x, y, []⟩]) m
  simp only [List.length_append, List.length_cons, List.length_nil] at hla
  have hbb := allotN_bd c.villages m
  have hba := allotN_bd (c.villages ++ [⟨x, y, []⟩]) m
  obtain ⟨la, hlae⟩ : ∃ la, la = allotN (c.villages ++ [⟨x, y, []⟩]) m := ⟨_, rfl⟩
  obtain ⟨lb, hlbe⟩ : ∃ lb, lb = allotN c.villages m := ⟨_, rfl⟩
  rw [← hlae] at hva hla hba
  rw [← hlbe] at hvb5 hlb hbb
  have HLAE := Lib.hid hlae
  have HLBE := Lib.hid hlbe
  clear hlae hlbe
  have hsb := hvb5.shape
  rw [hlb] at hsb
  obtain ⟨ab, cb, rfl, _, _⟩ := hsb
  obtain ⟨bb, ob, rfl, -, -, -⟩ := hvb5.addr (by omega)
  have hsa := hva.shape
  rw [hla] at hsa
  obtain ⟨aa, ca, rfl, _, _⟩ := hsa
  obtain ⟨ba, oa, rfl, -, -, -⟩ := hva.addr (by omega)
  obtain ⟨q0, hq0⟩ : ∃ q0, q0 = la.getD c.villages.length 0 := ⟨_, rfl⟩
  have HQ0 := Lib.hid hq0
  have HLB := Lib.hid hlb
  have HLA := Lib.hid hla
  have HBB := Lib.hid hbb
  have HBA := Lib.hid hba
  clear hlb hla hbb hba hq0
  go_wp2_with fail
  go_loopw [15, 16] (fun o i wr => ∃ k : Nat, k ≤ c.villages.length ∧ i = .int .i64 k ∧ Own w5.heap.size wr 3 1 o k (I64 (lateL lb la k)) ∧ Below w5.heap.size w5 wr) (fun _ i _ => c.villages.length - (intOf i).toNat)
  case atStart => exact ⟨0, Nat.zero_le _, rfl, Own.nil, Below.refl _ _⟩
  case round =>
    obtain ⟨k, hk, rfl, ho, hB⟩ := hrel
    have hsz := hB.size
    by_cases hlt : k < c.villages.length
    · have hkb : k < lb.length := by have := HLB.out; omega
      have hka : k < la.length := by have := HLA.out; omega
      have bd1 := HBB.out _ (List.getElem_mem hkb)
      have bd2 := HBA.out _ (List.getElem_mem hka)
      have hsn := lateL_succ lb la k
      have hc1 := fun w' (h : Below w5.heap.size w5 w') => (hvb5.call h).cell k hkb
      have hc2 := fun w' (h : Below w5.heap.size w5 w') => (hva.call h).cell k hka
      rw [show lb.getD k 0 = lb[k] by simp [hkb], show la.getD k 0 = la[k] by simp [hka]] at hsn
      obtain ⟨p, hp⟩ : ∃ p, p = lb[k] := ⟨_, rfl⟩
      obtain ⟨q, hq⟩ : ∃ q, q = la[k] := ⟨_, rfl⟩
      simp only [← hp] at hc1
      simp only [← hq] at hc2
      rw [← hp] at bd1 hsn
      rw [← hq] at bd2 hsn
      have HS := Lib.hid hsn
      clear hsn hp hq
      have hE : ∀ w', Below w5.heap.size w5 w' → (LrS bb (ob + k) p ba (oa + k) q) w' := fun w' h => ⟨hc1 w' h, hc2 w' h⟩
      clear hc1 hc2
      have bq : (k : Int) < (c.villages.length : Int) + 1 := by omega
      have bw : IntKind.i64.wrap (p - q) = p - q := IntWalk.i64_in _ (by omega)
      go_wp2_with fail
      refine wp_region_mix2 (.pur 0 (.pur 1 (.pur 2 (.pur 3 (.one 4 (.pur 5 (.pur 6 (.pur 7 (.one 8 (.pur 9 (.act 10 (.act 11 (.pur 12 .fin))))))))))))) 99 (LrS bb (ob + k) p ba (oa + k) q) (fun _ => True) (by kernel_rfl) (by kernel_rfl) rfl (by kernel_rfl) (hE _ hB).drew (fun wd hqd _ => ?_)
      have hBd := hB.trans ((hqd.below wr.heap.size).mono hB.size)
      have hod := ho.qt hqd
      have hsd := hBd.size
      refine mix_pur2 rfl (fun K hK => ?_)
      go_simp
      first | refine ⟨_, fun _ => rfl, hK _ ?_⟩ | refine hK _ ?_
      clear hK K
      refine mix_pur2 rfl (fun K hK => ?_)
      go_simp
      first | refine ⟨_, fun _ => rfl, hK _ ?_⟩ | refine hK _ ?_
      clear hK K
      refine mix_pur2 rfl (fun K hK => ?_)
      go_simp
      first | refine ⟨_, fun _ => rfl, hK _ ?_⟩ | refine hK _ ?_
      clear hK K
      refine mix_pur2 rfl (fun K hK => ?_)
      go_simp
      first | refine ⟨_, fun _ => rfl, hK _ ?_⟩ | refine hK _ ?_
      clear hK K
      refine mix_load2 rfl rfl rfl (.int .i64 p) (fun w' h => by have h : (LrS bb (ob + k) p ba (oa + k) q) w' := h; have h0 := h.1; go_simp) rfl ?_
      refine mix_pur2 rfl (fun K hK => ?_)
      go_simp
      first | refine ⟨_, fun _ => rfl, hK _ ?_⟩ | refine hK _ ?_
      clear hK K
      refine mix_pur2 rfl (fun K hK => ?_)
      go_simp
      first | refine ⟨_, fun _ => rfl, hK _ ?_⟩ | refine hK _ ?_
      clear hK K
      refine mix_pur2 rfl (fun K hK => ?_)
      go_simp
      first | refine ⟨_, fun _ => rfl, hK _ ?_⟩ | refine hK _ ?_
      clear hK K
      refine mix_load2 rfl rfl rfl (.int .i64 q) (fun w' h => by have h : (LrS bb (ob + k) p ba (oa + k) q) w' := h; have h0 := h.2; go_simp) rfl ?_
      refine mix_pur2 rfl (fun K hK => ?_)
      go_simp
      first | refine ⟨_, fun _ => rfl, hK _ ?_⟩ | refine hK _ ?_
      clear hK K
      refine mix_eff2 rfl false rfl (fun K hK => ?_)
      go_simp
      refine hK _ _ (hE _ (hBd.alloc hBd.size _)) ?_
      clear hK K
      refine mix_eff2 rfl false rfl (fun K hK => ?_)
      refine step_append_arr rfl _ _ 22 rfl 3 (.int .i64 0) 1 8 Try.underlying22 Try.info3 rfl (by decide) (by decide) (by simp; omega) (hod.alloc _) rfl (arr_one wd 3 (.int .i64 (p - q))) rfl rfl (one_int _) (by omega) ?_
      intro v4 w4 hown hT4
      have hB4 := hT4.below (hod.alloc _) (bal hBd) (by simp; omega)
      refine hK _ _ (hE _ hB4) ?_
      clear hK K
      refine mix_pur2 rfl (fun K hK => ?_)
      go_simp
      first | refine ⟨_, fun _ => rfl, hK _ ?_⟩ | refine hK _ ?_
      clear hK K
      refine mix_done2 ?_
      go_wp2_with fail
      go_roundw
      case rel => exact ⟨k + 1, by omega, by go_num, by rw [HS.out, I64_append]; exact hown, hB4⟩
      case measure => simp [intOf]; omega
    · obtain rfl : k = c.villages.length := by omega
      have hka : c.villages.length < la.length := by have := HLA.out; omega
      have e2 := (hva.call hB).cell _ hka
      have e3 : la.getD c.villages.length 0 = la[c.villages.length] := by simp [hka]
      rw [← e3, ← HQ0.out] at e2
      clear e3
      have bq : (c.villages.length : Int) < (c.villages.length : Int) + 1 := by omega
      go_wp2_with fail
      refine wp_region_mix2 (.pur 0 (.pur 1 (.pur 2 (.pur 3 (.one 4 (.pur 5 (.pur 6 (.pur 7 .fin)))))))) 99 (fun w' => w'.cell? ⟨ba, oa + c.villages.length, none⟩ = some (.int .i64 q0)) (fun _ => True) (by kernel_rfl) (by kernel_rfl) rfl (by kernel_rfl) e2 (fun w9 hq9 _ => ?_)
      refine mix_pur2 rfl (fun K hK => ?_)
      go_simp
      first | refine ⟨_, fun _ => rfl, hK _ ?_⟩ | refine hK _ ?_
      clear hK K
      refine mix_pur2 rfl (fun K hK => ?_)
      go_simp
      first | refine ⟨_, fun _ => rfl, hK _ ?_⟩ | refine hK _ ?_
      clear hK K
      refine mix_pur2 rfl (fun K hK => ?_)
      go_simp
      first | refine ⟨_, fun _ => rfl, hK _ ?_⟩ | refine hK _ ?_
      clear hK K
      refine mix_pur2 rfl (fun K hK => ?_)
      go_simp
      first | refine ⟨_, fun _ => rfl, hK _ ?_⟩ | refine hK _ ?_
      clear hK K
      refine mix_load2 rfl rfl rfl (.int .i64 q0) (fun w' h => by have h : (fun w' => w'.cell? ⟨ba, oa + c.villages.length, none⟩ = some (.int .i64 q0)) w' := h; have h0 : w'.cell? ⟨ba, oa + c.villages.length, none⟩ = some (.int .i64 q0) := h; go_simp) rfl ?_
      refine mix_pur2 rfl (fun K hK => ?_)
      go_simp
      first | refine ⟨_, fun _ => rfl, hK _ ?_⟩ | refine hK _ ?_
      clear hK K
      refine mix_pur2 rfl (fun K hK => ?_)
      go_simp
      first | refine ⟨_, fun _ => rfl, hK _ ?_⟩ | refine hK _ ?_
      clear hK K
      refine mix_pur2 rfl (fun K hK => ?_)
      go_simp
      first | refine ⟨_, fun _ => rfl, hK _ ?_⟩ | refine hK _ ?_
      clear hK K
      refine mix_done2 ?_
      have ho2 := ho.qt hq9
      have hB2 := hB.trans ((hq9.below wr.heap.size).mono hB.size)
      clear e2
      go_wp2
      go_ret3
      have hoi := Own.intsN ho2 (lateL_len _ _ _)
      rw [← HLAE.out, ← HLBE.out, ← HQ0.out]
      exact ⟨_, rfl, hoi.wide fun b hb _ => by have := hT5.size; omega, bnx hT5 hB2⟩


def lateE (c : Com) (x y m : Int) : Int := if placesErrE c m = 0 then (if btw x 1 50 && btw y 0 60 then 0 else 1) else placesErrE c m
def lateNo (c : Com) (x y m : Int) : Int := if lateE c x y m = 0 then (allotN (c.villages ++ [⟨x, y, []⟩]) m.toNat).getD c.villages.length 0 else 0
def lateR (c : Com) (x y m : Int) : List Int := if lateE c x y m = 0 then lateL (allotN c.villages m.toNat) (allotN (c.villages ++ [⟨x, y, []⟩]) m.toNat) c.villages.length else []

set_option maxRecDepth 100000 in
set_option maxHeartbeats 1000000 in
theorem lateA_c {A : Nat → Prop} {w : World} {vm vv : Value} {c : Com} (h : Cm A w vm vv c) (x y m : Int) :
    Calls Try.prog 59 #[.agg #[vm, vv], .int .i64 x, .int .i64 y, .int .i64 m] w fun e w' => ∃ v', e = .returned (.tuple #[v', .int .i64 (lateNo c x y m), .int .i64 (lateE c x y m)]) ∧ Ints (fun b => w.heap.size ≤ b) w' v' (lateR c x y m) ∧ Below w.heap.size w w' := by
  by_cases he : placesErrE c m = 0
  · obtain ⟨hok, h1, h2⟩ := placesErr_ok he
    cases hx : btw x 1 50 with
    | true =>
      cases hy : btw y 0 60 with
      | true =>
        have hx' : 1 ≤ x ∧ x ≤ 50 := by simpa [btw] using hx
        have hy' : 0 ≤ y ∧ y ≤ 60 := by simpa [btw] using hy
        obtain ⟨k, rfl⟩ : ∃ k : Nat, m = (k : Int) := ⟨m.toNat, by omega⟩
        have hle : lateE c x y k = 0 := by rw [lateE, if_pos he, hx, hy]; rfl
        rw [lateNo, lateR, if_pos hle, if_pos hle, hle, Int.toNat_natCast]
        exact late_c h hok x y hx' hy' k (by omega)
      | false =>
        have hle : lateE c x y m = 1 := by rw [lateE, if_pos he, hx, hy]; rfl
        obtain ⟨am, cpm, rfl, _, _⟩ := h.1.shape
        obtain ⟨av, cpv, rfl, _, _⟩ := h.2.shape
        have hB0 : Below w.heap.size w (w.alloc (.cells #[.slice am c.mountains.length cpm, .slice av c.villages.length cpv] 25)) := (Below.refl _ w).alloc (Nat.le_refl _) _
        have h0 := h.call hB0
        have b0 : ((0 : Int) != 0) = false := rfl
        rw [lateNo, lateR, hle, if_neg (by decide), if_neg (by decide)]
        have HE := Lib.hid he
        clear he hle
        go_enter Try.func59, Try.ntmps59
        go_wp2_with fail
        refine (placesError_c h0 _).mono ?_
        rintro e w1 ⟨rfl, hB1⟩
        rw [HE.out]
        go_wp2_with (go_at_call 108; refine (between_c _ _ _ _).mono ?_; rintro e w' ⟨rfl, rfl⟩)
        go_ret3
        exact ⟨_, rfl, ints_nil _ _, bnx hB0 hB1⟩
    | false =>
      have hle : lateE c x y m = 1 := by rw [lateE, if_pos he, hx]; rfl
      obtain ⟨am, cpm, rfl, _, _⟩ := h.1.shape
      obtain ⟨av, cpv, rfl, _, _⟩ := h.2.shape
      have hB0 : Below w.heap.size w (w.alloc (.cells #[.slice am c.mountains.length cpm, .slice av c.villages.length cpv] 25)) := (Below.refl _ w).alloc (Nat.le_refl _) _
      have h0 := h.call hB0
      have b0 : ((0 : Int) != 0) = false := rfl
      rw [lateNo, lateR, hle, if_neg (by decide), if_neg (by decide)]
      have HE := Lib.hid he
      clear he hle
      go_enter Try.func59, Try.ntmps59
      go_wp2_with fail
      refine (placesError_c h0 _).mono ?_
      rintro e w1 ⟨rfl, hB1⟩
      rw [HE.out]
      go_wp2_with (go_at_call 108; refine (between_c _ _ _ _).mono ?_; rintro e w' ⟨rfl, rfl⟩)
      go_ret3
      exact ⟨_, rfl, ints_nil _ _, bnx hB0 hB1⟩
  · obtain ⟨am, cpm, rfl, _, _⟩ := h.1.shape
    obtain ⟨av, cpv, rfl, _, _⟩ := h.2.shape
    have hB0 : Below w.heap.size w (w.alloc (.cells #[.slice am c.mountains.length cpm, .slice av c.villages.length cpv] 25)) := (Below.refl _ w).alloc (Nat.le_refl _) _
    have h0 := h.call hB0
    have hb : (placesErrE c m != 0) = true := by simpa using he
    have hle : lateE c x y m = placesErrE c m := by rw [lateE, if_neg he]
    rw [lateNo, lateR, hle, if_neg he, if_neg he]
    clear he hle
    go_enter Try.func59, Try.ntmps59
    go_wp2_with fail
    refine (placesError_c h0 _).mono ?_
    rintro e w1 ⟨rfl, hB1⟩
    go_wp2
    go_ret3
    exact ⟨_, rfl, ints_nil _ _, bnx hB0 hB1⟩

set_option maxRecDepth 100000 in
set_option maxHeartbeats 1000000 in
theorem rlateA_c {A : Nat → Prop} {w : World} {vm vv : Value} {c : Com} (h : Cm A w vm vv c) (x y m : Int) :
    Calls Try.prog 67 #[.agg #[vm, vv], .int .i64 x, .int .i64 y, .int .i64 m] w fun e w' => ∃ v', e = .returned (.tuple #[v', .int .i64 (lateNo c x y m), .int .i64 (lateE c x y m)]) ∧ Ints (fun b => w.heap.size ≤ b) w' v' (lateR c x y m) ∧ Below w.heap.size w w' := by
  by_cases he : placesErrE c m = 0
  · obtain ⟨hok, h1, h2⟩ := placesErr_ok he
    cases hx : btw x 1 50 with
    | true =>
      cases hy : btw y 0 60 with
      | true =>
        have hx' : 1 ≤ x ∧ x ≤ 50 := by simpa [btw] using hx
        have hy' : 0 ≤ y ∧ y ≤ 60 := by simpa [btw] using hy
        obtain ⟨k, rfl⟩ : ∃ k : Nat, m = (k : Int) := ⟨m.toNat, by omega⟩
        have hle : lateE c x y k = 0 := by rw [lateE, if_pos he, hx, hy]; rfl
        rw [lateNo, lateR, if_pos hle, if_pos hle, hle, Int.toNat_natCast]
        exact rlate_good h hok x y hx' hy' k (by omega)
      | false =>
        have hle : lateE c x y m = 1 := by rw [lateE, if_pos he, hx, hy]; rfl
        obtain ⟨am, cpm, rfl, _, _⟩ := h.1.shape
        obtain ⟨av, cpv, rfl, _, _⟩ := h.2.shape
        have hB0 : Below w.heap.size w (w.alloc (.cells #[.slice am c.mountains.length cpm, .slice av c.villages.length cpv] 25)) := (Below.refl _ w).alloc (Nat.le_refl _) _
        have h0 := h.call hB0
        have b0 : ((0 : Int) != 0) = false := rfl
        rw [lateNo, lateR, hle, if_neg (by decide), if_neg (by decide)]
        have HE := Lib.hid he
        clear he hle
        go_enter Try.func67, Try.ntmps67
        go_wp2_with fail
        refine (rplaces_c h0 _).mono ?_
        rintro e w1 ⟨rfl, hB1⟩
        rw [HE.out]
        go_wp2_with (go_at_call 111; refine (inside_c _ _ _ _).mono ?_; rintro e w' ⟨rfl, rfl⟩)
        go_ret3
        exact ⟨_, rfl, ints_nil _ _, bnx hB0 hB1⟩
    | false =>
      have hle : lateE c x y m = 1 := by rw [lateE, if_pos he, hx]; rfl
      obtain ⟨am, cpm, rfl, _, _⟩ := h.1.shape
      obtain ⟨av, cpv, rfl, _, _⟩ := h.2.shape
      have hB0 : Below w.heap.size w (w.alloc (.cells #[.slice am c.mountains.length cpm, .slice av c.villages.length cpv] 25)) := (Below.refl _ w).alloc (Nat.le_refl _) _
      have h0 := h.call hB0
      have b0 : ((0 : Int) != 0) = false := rfl
      rw [lateNo, lateR, hle, if_neg (by decide), if_neg (by decide)]
      have HE := Lib.hid he
      clear he hle
      go_enter Try.func67, Try.ntmps67
      go_wp2_with fail
      refine (rplaces_c h0 _).mono ?_
      rintro e w1 ⟨rfl, hB1⟩
      rw [HE.out]
      go_wp2_with (go_at_call 111; refine (inside_c _ _ _ _).mono ?_; rintro e w' ⟨rfl, rfl⟩)
      go_ret3
      exact ⟨_, rfl, ints_nil _ _, bnx hB0 hB1⟩
  · obtain ⟨am, cpm, rfl, _, _⟩ := h.1.shape
    obtain ⟨av, cpv, rfl, _, _⟩ := h.2.shape
    have hB0 : Below w.heap.size w (w.alloc (.cells #[.slice am c.mountains.length cpm, .slice av c.villages.length cpv] 25)) := (Below.refl _ w).alloc (Nat.le_refl _) _
    have h0 := h.call hB0
    have hb : (placesErrE c m != 0) = true := by simpa using he
    have hle : lateE c x y m = placesErrE c m := by rw [lateE, if_neg he]
    rw [lateNo, lateR, hle, if_neg he, if_neg he]
    clear he hle
    go_enter Try.func67, Try.ntmps67
    go_wp2_with fail
    refine (rplaces_c h0 _).mono ?_
    rintro e w1 ⟨rfl, hB1⟩
    go_wp2
    go_ret3
    exact ⟨_, rfl, ints_nil _ _, bnx hB0 hB1⟩

end Go.Proofs.Ythchpoabncdicaa
