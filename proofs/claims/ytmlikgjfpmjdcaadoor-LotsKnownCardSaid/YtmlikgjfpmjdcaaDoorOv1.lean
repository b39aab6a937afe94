/- Over's answer and its sum; Envy and Over (lots); conditions: as said. -/
import Derived.Test.YtmlikgjfpmjdcaaDoorC1
namespace Go.Proofs.YtmlikgjfpmjdcaaDoor
open Go.RowKit

/-- By how many heads the herds of a division are too great. -/
def overL (c : Com) (d : List Int) : List Int := (List.range d.length).map fun v => overV c v (d.getD v 0)
theorem overL_len (c : Com) (d : List Int) : (overL c d).length = d.length := by simp [overL]
theorem overL_at (c : Com) (d : List Int) (k : Nat) (h : k < (overL c d).length) : (overL c d)[k] = overV c k (d.getD k 0) := by simp [overL]
theorem overV_bd {c : Com} (hok : c.Ok 4) (v : Nat) (m : Int) : 0 ≤ overV c v m ∧ overV c v m ≤ 60 := by
  have h1 : 0 ≤ c.mountains.getD m.toNat 0 := by
    by_cases h : m.toNat < c.mountains.length
    · have := hok.bears _ (List.getElem_mem h)
      simp [h]; omega
    · simp [h]
  have h2 : her c.villages v ≤ 60 := by
    by_cases h : v < c.villages.length
    · have := hok.vil _ (List.getElem_mem h)
      rw [her_at h]; omega
    · simp [her, h]
  rw [overV]; omega
theorem overL_mem {c : Com} (hok : c.Ok 4) (d : List Int) (x : Int) (h : x ∈ overL c d) : 0 ≤ x ∧ x ≤ 60 := by
  obtain ⟨v, _, rfl⟩ := List.mem_map.1 h
  exact overV_bd hok _ _
def overSum (c : Com) (d : List Int) : Int := sumL (overL c d)
theorem Own.intsL {B : Nat} {w : World} {v : Value} {n : Nat} {l : List Int} (hl : l.length = n) (h : Own B w 3 1 v n (I64 l)) : Ints (fun b => B ≤ b) w v l := by subst hl; exact Own.ints h
/-- What a round reads. -/
def OvX (b wb : Nat) (vm vv : Value) (b1 o1 : Nat) (x : Int) (b2 o2 : Nat) (y : Int) (w : World) : Prop := Blk b #[.pointer (some ⟨wb, 0, none⟩)] 75 w ∧ Blk wb #[vm, vv] 60 w ∧ w.cell? ⟨b1, o1, none⟩ = some (.int .i64 x) ∧ w.cell? ⟨b2, o2, none⟩ = some (.int .i64 y)
theorem OvX.drew {b wb : Nat} {vm vv : Value} {b1 o1 : Nat} {x : Int} {b2 o2 : Nat} {y : Int} {w : World} (h : OvX b wb vm vv b1 o1 x b2 o2 y w) : OvX b wb vm vv b1 o1 x b2 o2 y w.drew := h

set_option maxRecDepth 100000 in
set_option maxHeartbeats 2000000 in
theorem overOf_c {A A' : Nat → Prop} {w : World} {wb : Nat} {vm vv vd : Value} {c : Com} {l : List Int} (hw : Blk wb #[vm, vv] 60 w) (h : Cm A w vm vv c) (hok : c.Ok 4) (hd : Ints A' w vd l) (hp : PermOf c.villages.length l) :
    Calls Tryd.prog 39 #[.agg #[.pointer (some ⟨wb, 0, none⟩)], vd] w fun e w' => ∃ v', e = .returned v' ∧ Ints (fun k => w.heap.size ≤ k) w' v' (overL c l) ∧ Below w.heap.size w w' := by
  obtain ⟨am, cpm, rfl, _, _⟩ := h.1.shape
  obtain ⟨av, cpv, rfl, _, _⟩ := h.2.shape
  obtain ⟨ad, cpd, rfl, _, _⟩ := hd.shape
  have hlv := hp.len
  have hvl := hok.vl
  have hn1 := hok.n1
  have hn4 := hok.n2
  have hl1 : 0 < l.length := by omega
  have hl4 : l.length ≤ 4 := by omega
  have hlv1 : l.length ≤ c.villages.length := by omega
  have hmem := hp.mem
  obtain ⟨b1, o1, rfl, -, hb1⟩ := h.2.addr (by omega)
  obtain ⟨b2, o2, rfl, -, hb2, hc2⟩ := h.1.addr (by omega)
  obtain ⟨bd, od, rfl, -, hbd, hdc⟩ := hd.addr hl1
  have hwl := hw.lt
  have hB0 : Below w.heap.size w (w.alloc (.cells #[.pointer (some ⟨wb, 0, none⟩)] 75)) := (Below.refl _ w).alloc (Nat.le_refl _) _
  have hx0 : Blk w.heap.size #[.pointer (some ⟨wb, 0, none⟩)] 75 (w.alloc (.cells #[.pointer (some ⟨wb, 0, none⟩)] 75)) := Blk.new w _ _
  have HLV := Lib.hid hlv
  have HVL := Lib.hid hvl
  have HMEM := Lib.hid hmem
  clear hlv hvl hmem
  go_enter Tryd.func39, Tryd.ntmps39
  go_wp2_with fail
  go_loopw [5, 10] (fun o i wr => ∃ k : Nat, k ≤ l.length ∧ i = .int .i64 k ∧ Own (w.heap.size + 1) wr 3 1 o k (I64 ((overL c l).take k)) ∧ Blk w.heap.size #[.pointer (some ⟨wb, 0, none⟩)] 75 wr ∧ Below w.heap.size w wr) (fun _ i _ => l.length - (intOf i).toNat)
  case atStart => exact ⟨0, Nat.zero_le _, rfl, Own.nil, hx0, hB0⟩
  case round =>
    obtain ⟨k, hk, rfl, ho, hx, hB⟩ := hrel
    clear hB0 hx0
    have hsz := hx.lt
    have hwr : w.heap.size + 1 ≤ wr.heap.size := by omega
    by_cases hlt : k < l.length
    · have gd := (World.cell?_of_block (hB.block bd hbd)).trans (hdc k hlt)
      have hmb := (HMEM.out l[k]).1 (List.getElem_mem hlt)
      have hsn : (overL c l).take (k + 1) = (overL c l).take k ++ [overV c k (l.getD k 0)] := by
        rw [List.take_succ_eq_append_getElem (by rw [overL_len]; exact hlt), overL_at]
      have hget : l.getD k 0 = l[k] := by simp [hlt]
      rw [hget] at hsn
      obtain ⟨m, hm⟩ : ∃ m : Nat, l[k] = (m : Int) := ⟨l[k].toNat, by omega⟩
      rw [hm] at gd hmb hsn
      clear hget hm
      have hkv : k < c.villages.length := by omega
      have hmm : m < c.mountains.length := by have := HVL.out; omega
      obtain ⟨p1, d1, -, g2, -, -⟩ := h.2.at k hkv
      have q2 := hc2 m hmm
      have hvo := hok.vil _ (List.getElem_mem hkv)
      have hmo := hok.bears _ (List.getElem_mem hmm)
      have e1 : overV c k m = max 0 (c.villages[k].herd - c.mountains[m]) := by
        rw [overV, her_at hkv, Int.toNat_natCast]; simp [hmm]
      rw [e1] at hsn
      obtain ⟨x, hx1⟩ : ∃ x, x = c.villages[k].herd := ⟨_, rfl⟩
      obtain ⟨y, hy1⟩ : ∃ y, y = c.mountains[m] := ⟨_, rfl⟩
      rw [← hx1] at g2 hvo hsn
      rw [← hy1] at q2 hmo hsn
      have k1 := hvo.2.2.1
      have k2 := hvo.2.2.2.1
      have k3 := hmo.1
      have k4 := hmo.2
      clear e1 hx1 hy1 hvo hmo
      have hE : ∀ w', Below w.heap.size w w' → Blk w.heap.size #[.pointer (some ⟨wb, 0, none⟩)] 75 w' → (OvX w.heap.size wb (.slice (some ⟨b2, o2, none⟩) c.mountains.length cpm) (.slice (some ⟨b1, o1, none⟩) c.villages.length cpv) b1 (o1 + k * 3 + 1) x b2 (o2 + m) y) w' := fun w' h' hxx => ⟨hxx, hw.call h', (World.cell?_of_block (h'.block b1 hb1)).trans g2, (World.cell?_of_block (h'.block b2 hb2)).trans q2⟩
      clear g2 q2
      have bw : IntKind.i64.wrap (x - y) = x - y := IntWalk.i64_in _ (by omega)
      rw [show max 0 (x - y) = if y < x then x - y else 0 by split <;> omega] at hsn
      have HS := Lib.hid hsn
      clear hsn
      go_wp2_with fail
      refine wp_region_mix2 (.pur 0 (.pur 1 (.one 2 (.pur 3 (.pur 4 (.pur 5 (.one 6 (.pur 7 (.pur 8 (.pur 9 (.one 10 (.pur 11 (.one 12 (.pur 13 (.pur 14 (.pur 15 (.one 16 (.pur 17 (.pur 18 (.one 19 (.pur 20 (.pur 21 (.act 22 (.act 23 (.pur 24 .fin))))))))))))))))))))))))) 99 (OvX w.heap.size wb (.slice (some ⟨b2, o2, none⟩) c.mountains.length cpm) (.slice (some ⟨b1, o1, none⟩) c.villages.length cpv) b1 (o1 + k * 3 + 1) x b2 (o2 + m) y) (fun _ => True) (by kernel_rfl) (by kernel_rfl) rfl (by kernel_rfl) (hE _ hB hx).drew (fun wd hqd _ => ?_)
      have hBd := bnx hB (hqd.below wr.heap.size)
      have hxd := hx.call (hqd.below _)
      have hod := ho.qt hqd
      have hsd : wr.heap.size ≤ wd.heap.size := (hqd.below wr.heap.size).size
      refine mix_pur2 rfl (fun K hK => ?_)
      go_simp
      first | refine ⟨_, fun _ => rfl, hK _ ?_⟩ | refine hK _ ?_
      clear hK K
      refine mix_pur2 rfl (fun K hK => ?_)
      go_simp
      first | refine ⟨_, fun _ => rfl, hK _ ?_⟩ | refine hK _ ?_
      clear hK K
      refine mix_load2 rfl rfl rfl (.pointer (some ⟨wb, 0, none⟩)) (fun w' h => by have h : (OvX w.heap.size wb (.slice (some ⟨b2, o2, none⟩) c.mountains.length cpm) (.slice (some ⟨b1, o1, none⟩) c.villages.length cpv) b1 (o1 + k * 3 + 1) x b2 (o2 + m) y) w' := h; have h0 := h.1.cell 0; go_simp) rfl ?_
      refine mix_pur2 rfl (fun K hK => ?_)
      go_simp
      first | refine ⟨_, fun _ => rfl, hK _ ?_⟩ | refine hK _ ?_
      clear hK K
      refine mix_pur2 rfl (fun K hK => ?_)
      go_simp
      first | refine ⟨_, fun _ => rfl, hK _ ?_⟩ | refine hK _ ?_
      clear hK K
      refine mix_pur2 rfl (fun K hK => ?_)
      go_simp
      first | refine ⟨_, fun _ => rfl, hK _ ?_⟩ | refine hK _ ?_
      clear hK K
      refine mix_load2 rfl rfl rfl (.slice (some ⟨b1, o1, none⟩) c.villages.length cpv) (fun w' h => by have h : (OvX w.heap.size wb (.slice (some ⟨b2, o2, none⟩) c.mountains.length cpm) (.slice (some ⟨b1, o1, none⟩) c.villages.length cpv) b1 (o1 + k * 3 + 1) x b2 (o2 + m) y) w' := h; have h0 := h.2.1.cell 1; go_simp) rfl ?_
      refine mix_pur2 rfl (fun K hK => ?_)
      go_simp
      first | refine ⟨_, fun _ => rfl, hK _ ?_⟩ | refine hK _ ?_
      clear hK K
      refine mix_pur2 rfl (fun K hK => ?_)
      go_simp
      first | refine ⟨_, fun _ => rfl, hK _ ?_⟩ | refine hK _ ?_
      clear hK K
      refine mix_pur2 rfl (fun K hK => ?_)
      go_simp
      first | refine ⟨_, fun _ => rfl, hK _ ?_⟩ | refine hK _ ?_
      clear hK K
      refine mix_load2 rfl rfl rfl (.int .i64 x) (fun w' h => by have h : (OvX w.heap.size wb (.slice (some ⟨b2, o2, none⟩) c.mountains.length cpm) (.slice (some ⟨b1, o1, none⟩) c.villages.length cpv) b1 (o1 + k * 3 + 1) x b2 (o2 + m) y) w' := h; have h0 := h.2.2.1; go_simp) rfl ?_
      refine mix_pur2 rfl (fun K hK => ?_)
      go_simp
      first | refine ⟨_, fun _ => rfl, hK _ ?_⟩ | refine hK _ ?_
      clear hK K
      refine mix_load2 rfl rfl rfl (.pointer (some ⟨wb, 0, none⟩)) (fun w' h => by have h : (OvX w.heap.size wb (.slice (some ⟨b2, o2, none⟩) c.mountains.length cpm) (.slice (some ⟨b1, o1, none⟩) c.villages.length cpv) b1 (o1 + k * 3 + 1) x b2 (o2 + m) y) w' := h; have h0 := h.1.cell 0; go_simp) rfl ?_
      refine mix_pur2 rfl (fun K hK => ?_)
      go_simp
      first | refine ⟨_, fun _ => rfl, hK _ ?_⟩ | refine hK _ ?_
      clear hK K
      refine mix_pur2 rfl (fun K hK => ?_)
      go_simp
      first | refine ⟨_, fun _ => rfl, hK _ ?_⟩ | refine hK _ ?_
      clear hK K
      refine mix_pur2 rfl (fun K hK => ?_)
      go_simp
      first | refine ⟨_, fun _ => rfl, hK _ ?_⟩ | refine hK _ ?_
      clear hK K
      refine mix_load2 rfl rfl rfl (.slice (some ⟨b2, o2, none⟩) c.mountains.length cpm) (fun w' h => by have h : (OvX w.heap.size wb (.slice (some ⟨b2, o2, none⟩) c.mountains.length cpm) (.slice (some ⟨b1, o1, none⟩) c.villages.length cpv) b1 (o1 + k * 3 + 1) x b2 (o2 + m) y) w' := h; have h0 := h.2.1.cell 0; go_simp) rfl ?_
      refine mix_pur2 rfl (fun K hK => ?_)
      go_simp
      first | refine ⟨_, fun _ => rfl, hK _ ?_⟩ | refine hK _ ?_
      clear hK K
      refine mix_pur2 rfl (fun K hK => ?_)
      go_simp
      first | refine ⟨_, fun _ => rfl, hK _ ?_⟩ | refine hK _ ?_
      clear hK K
      refine mix_load2 rfl rfl rfl (.int .i64 y) (fun w' h => by have h : (OvX w.heap.size wb (.slice (some ⟨b2, o2, none⟩) c.mountains.length cpm) (.slice (some ⟨b1, o1, none⟩) c.villages.length cpv) b1 (o1 + k * 3 + 1) x b2 (o2 + m) y) w' := h; have h0 := h.2.2.2; go_simp) rfl ?_
      refine mix_pur2 rfl (fun K hK => ?_)
      go_simp
      first | refine ⟨_, fun _ => rfl, hK _ ?_⟩ | refine hK _ ?_
      clear hK K
      refine mix_pur2 rfl (fun K hK => ?_)
      go_simp
      first | refine ⟨_, fun _ => rfl, hK _ ?_⟩ | refine hK _ ?_
      clear hK K
      refine mix_eff2 rfl false rfl (fun K hK => ?_)
      go_simp
      refine hK _ _ (hE _ (bal hBd) (hxd.alloc _)) ?_
      clear hK K
      refine mix_eff2 rfl false rfl (fun K hK => ?_)
      refine step_append_arr rfl _ _ 22 rfl 3 (.int .i64 0) 1 8 Tryd.underlying22 Tryd.info3 rfl (by decide) (by decide) (by simp; omega) (hod.alloc _) rfl (arr_one wd 3 (.int .i64 (if y < x then x - y else 0))) rfl rfl (one_int _) (by omega) ?_
      intro v4 w4 hown hT4
      have hB4 : Below w.heap.size w w4 := hT4.below2 (hod.alloc _) (bal hBd) (by simp; omega) (by omega)
      have hx4 := (hxd.alloc (.cells #[.int .i64 (if y < x then x - y else 0)] 3)).keep (hT4.block w.heap.size (by simp; omega) (fun e => by have := ((hod.alloc (.cells #[.int .i64 (if y < x then x - y else 0)] 3)).lt _ e).1; omega))
      refine hK _ _ (hE _ hB4 hx4) ?_
      clear hK K
      refine mix_pur2 rfl (fun K hK => ?_)
      go_simp
      first | refine ⟨_, fun _ => rfl, hK _ ?_⟩ | refine hK _ ?_
      clear hK K
      refine mix_done2 ?_
      go_wp2_with fail
      go_roundw
      case rel => exact ⟨k + 1, by omega, by go_num, by rw [HS.out, I64_append]; exact hown, hx4, hB4⟩
      case measure => simp [intOf]; omega
    · obtain rfl : k = l.length := by omega
      rw [List.take_of_length_le (by rw [overL_len]; exact Nat.le_refl _)] at ho
      go_wp2
      go_ret
      exact ⟨_, rfl, (Own.intsL (overL_len c l) ho).wide fun b hb _ => by omega, hB⟩

set_option maxRecDepth 100000 in
set_option maxHeartbeats 1000000 in
theorem sumO_c {A A' : Nat → Prop} {w : World} {wb : Nat} {vm vv vd : Value} {c : Com} {l : List Int} (hw : Blk wb #[vm, vv] 60 w) (h : Cm A w vm vv c) (hok : c.Ok 4) (hd : Ints A' w vd l) (hp : PermOf c.villages.length l) :
    Calls Tryd.prog 45 #[.iface 75 (.agg #[.pointer (some ⟨wb, 0, none⟩)]), vd] w fun e w' => e = .returned (.int .i64 (overSum c l)) ∧ Below w.heap.size w w' := by
  have hl : l.length ≤ 1000 := by have := hp.len; have := hok.vl; have := hok.n2; omega
  have hbd := sumL_le (overL c l) 60 (overL_mem hok l)
  have hmem := overL_mem hok l
  have hel := overL_len c l
  rw [overSum]
  obtain ⟨el, hee⟩ : ∃ el, el = overL c l := ⟨_, rfl⟩
  rw [← hee] at hbd hmem hel ⊢
  have HBD := Lib.hid hbd
  have HEE := Lib.hid hee
  have hel2 : el.length ≤ 1000 := by omega
  have hlb : (60 : Int) * el.length ≤ 1000000 := by
    omega
  have HEL := Lib.hid hel
  clear hbd hmem hee hel
  go_enter Tryd.func45, Tryd.ntmps45
  go_wp2_with fail
  refine upon_method 39 (.agg #[.pointer (some ⟨wb, 0, none⟩)]) (by kernel_rfl) ?_
  go_wp2_with fail
  go_at_call 39
  refine (overOf_c hw h hok hd hp).mono ?_
  rintro e w1 ⟨v1, rfl, hv, hB⟩
  rw [← HEE.out] at hv
  obtain ⟨av, cv, rfl, _, _⟩ := hv.shape
  have nv := hv.len
  go_wp2_with fail
  go_loop [5, 12] (fun s i => ∃ k : Nat, k ≤ el.length ∧ i = .int .i64 k ∧ s = .int .i64 (sumL (el.take k))) (fun _ i => el.length - (intOf i).toNat)
  case atStart => exact ⟨0, Nat.zero_le _, rfl, rfl⟩
  case round =>
    obtain ⟨k, hk, rfl, rfl⟩ := hrel
    by_cases hlt : k < el.length
    · obtain ⟨bd, od, rfl, -, -, -⟩ := hv.addr (by omega)
      have g := hv.cell k hlt
      have h1 := HBD.out k (by omega)
      have h2 := HBD.out (k + 1) (by omega)
      have h3 : sumL (el.take (k + 1)) = sumL (el.take k) + el[k] := by rw [List.take_succ_eq_append_getElem hlt, sumL_snoc]
      obtain ⟨x, hx⟩ : ∃ x, x = el[k] := ⟨_, rfl⟩
      rw [← hx] at g h3
      have b1 : 0 ≤ sumL (el.take k) ∧ sumL (el.take k) ≤ 1000000 := by omega
      have b2 : 0 ≤ sumL (el.take k) + x ∧ sumL (el.take k) + x ≤ 1000000 := by omega
      have H3 := Lib.hid h3
      clear h1 h2 h3 hx
      obtain ⟨b1, b1'⟩ := b1
      obtain ⟨b2, b2'⟩ := b2
      go_wp2
      go_round
      case rel => exact ⟨k + 1, by omega, by go_num, by rw [H3.out]⟩
      case measure => simp [intOf]; omega
    · obtain rfl : k = el.length := by omega
      go_wp2
      go_ret
      exact ⟨ret_int rfl, hB⟩


def envyR (c : Com) (l : List Int) : List Int := if divE c l = 0 then envyL c.villages l else []
set_option maxRecDepth 100000 in
theorem envyR_c {A A' : Nat → Prop} {w : World} {vm vv vd : Value} {c : Com} {l : List Int} (h : Cm A w vm vv c) (hd : Ints A' w vd l) :
    Calls Tryd.prog 16 #[.agg #[vm, vv], vd] w fun e w' => ∃ v', e = .returned (.tuple #[v', .int .i64 (divE c l)]) ∧ Ints (fun b => w.heap.size ≤ b) w' v' (envyR c l) ∧ Below w.heap.size w w' := by
  obtain ⟨am, cpm, rfl, _, _⟩ := h.1.shape
  obtain ⟨av, cpv, rfl, _, _⟩ := h.2.shape
  have hB0 : Below w.heap.size w (w.alloc (.cells #[.slice am c.mountains.length cpm, .slice av c.villages.length cpv] 25)) := (Below.refl _ w).alloc (Nat.le_refl _) _
  have h0 := h.call hB0
  have hd0 := hd.call hB0
  by_cases he : divE c l = 0
  · rw [envyR, if_pos he, he]
    have hok := (divE_ok he).1
    have hpm := (divE_ok he).2
    have hl4 : l.length ≤ 4 := by have := hpm.len; have := hok.n2; omega
    have hlv : l.length ≤ c.villages.length := by have := hpm.len; have := hok.vl; omega
    have b0 : ((0 : Int) != 0) = false := rfl
    have HE := Lib.hid he
    clear he
    go_enter Tryd.func16, Tryd.ntmps16
    go_wp2_with fail
    refine (begin_ok h0 hd0 HE.out).mono ?_
    rintro e w1 ⟨gw, rfl, hW, hgw, hB1⟩
    have h1 := h0.call hB1
    have hd1 := hd0.call hB1
    have hB2 := bnx hB0 hB1
    go_wp2_with fail
    refine (envyOf_c hW h1.2 hd1 hlv (by omega)).mono ?_
    rintro e w2 ⟨v', rfl, hv, hB3⟩
    go_wp2
    go_ret2
    exact ⟨_, rfl, hv.wide fun b hb _ => by have := hB2.size; omega, bnx hB2 hB3⟩
  · rw [envyR, if_neg he]
    have b1 : (divE c l != 0) = true := by simpa using he
    go_enter Tryd.func16, Tryd.ntmps16
    go_wp2_with fail
    refine (begin_bad h0 hd0 he).mono ?_
    rintro e w1 ⟨rfl, hB1⟩
    clear he
    go_wp2
    go_ret2
    exact ⟨_, rfl, ints_nil _ _, bnx hB0 hB1⟩

def overR (c : Com) (l : List Int) : List Int := if divE c l = 0 then overL c l else []
set_option maxRecDepth 100000 in
theorem overR_c {A A' : Nat → Prop} {w : World} {vm vv vd : Value} {c : Com} {l : List Int} (h : Cm A w vm vv c) (hd : Ints A' w vd l) :
    Calls Tryd.prog 19 #[.agg #[vm, vv], vd] w fun e w' => ∃ v', e = .returned (.tuple #[v', .int .i64 (divE c l)]) ∧ Ints (fun b => w.heap.size ≤ b) w' v' (overR c l) ∧ Below w.heap.size w w' := by
  obtain ⟨am, cpm, rfl, _, _⟩ := h.1.shape
  obtain ⟨av, cpv, rfl, _, _⟩ := h.2.shape
  have hB0 : Below w.heap.size w (w.alloc (.cells #[.slice am c.mountains.length cpm, .slice av c.villages.length cpv] 25)) := (Below.refl _ w).alloc (Nat.le_refl _) _
  have h0 := h.call hB0
  have hd0 := hd.call hB0
  by_cases he : divE c l = 0
  · rw [overR, if_pos he, he]
    have hok := (divE_ok he).1
    have hpm := (divE_ok he).2
    have hl4 : l.length ≤ 4 := by have := hpm.len; have := hok.n2; omega
    have hlv : l.length ≤ c.villages.length := by have := hpm.len; have := hok.vl; omega
    have b0 : ((0 : Int) != 0) = false := rfl
    have HE := Lib.hid he
    clear he
    go_enter Tryd.func19, Tryd.ntmps19
    go_wp2_with fail
    refine (begin_ok h0 hd0 HE.out).mono ?_
    rintro e w1 ⟨gw, rfl, hW, hgw, hB1⟩
    have h1 := h0.call hB1
    have hd1 := hd0.call hB1
    have hB2 := bnx hB0 hB1
    go_wp2_with fail
    refine (overOf_c hW h1 hok hd1 (by rw [hok.vl]; exact hpm)).mono ?_
    rintro e w2 ⟨v', rfl, hv, hB3⟩
    go_wp2
    go_ret2
    exact ⟨_, rfl, hv.wide fun b hb _ => by have := hB2.size; omega, bnx hB2 hB3⟩
  · rw [overR, if_neg he]
    have b1 : (divE c l != 0) = true := by simpa using he
    go_enter Tryd.func19, Tryd.ntmps19
    go_wp2_with fail
    refine (begin_bad h0 hd0 he).mono ?_
    rintro e w1 ⟨rfl, hB1⟩
    clear he
    go_wp2
    go_ret2
    exact ⟨_, rfl, ints_nil _ _, bnx hB0 hB1⟩

end Go.Proofs.YtmlikgjfpmjdcaaDoor
