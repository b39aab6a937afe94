/- Calm and Room (lots and mestaref08): the first division with the least envy, with the fewest heads too many; conditions: none. -/
import Derived.Test.YtmlikgjfpmjdcaaDoorLst1
import Derived.Test.YtmlikgjfpmjdcaaDoorC2
namespace Go.Proofs.YtmlikgjfpmjdcaaDoor
open Go.RowKit

def leastB (f : List Int → Int) (c : Com) : List Int := if checkE c = 0 then (match lsK f (divs c.villages.length) with | some (b, _) => b | none => []) else []
def leastN (f : List Int → Int) (c : Com) : Int := if checkE c = 0 then f (leastB f c) else 0
theorem lsF_congr {f g : List Int → Int} : ∀ (pre : List (List Int)) (ks : Option (List Int × List Int)), (∀ d ∈ pre, f d = g d) → pre.foldl (lsStep f) ks = pre.foldl (lsStep g) ks
  | [], _, _ => rfl
  | x :: t, ks, h => by
    rw [List.foldl_cons, List.foldl_cons]
    have e : lsStep f ks x = lsStep g ks x := by
      cases ks with
      | none => simp only [lsStep, h x (by simp)]
      | some bk => obtain ⟨b, k⟩ := bk; simp only [lsStep, h x (by simp)]
    rw [e]
    exact lsF_congr t _ (fun d hd => h d (by simp [hd]))
theorem lsK_congr {f g : List Int → Int} {pre : List (List Int)} (h : ∀ d ∈ pre, f d = g d) : lsK f pre = lsK g pre := lsF_congr pre none h
theorem divs_perm {n : Nat} (hn : n ≤ 4) {d : List Int} (hd : d ∈ divs n) : PermOf n d := exts_perm (n := n) hn d hd
theorem envyB_rk {c : Com} (hok : c.Ok 4) {d : List Int} (hd : d ∈ divs c.villages.length) : envySum c.villages d = rkS c.villages d c.villages.length := by
  have hl := divs_row hd
  have hn : c.villages.length ≤ 4 := by have := hok.vl; have := hok.n2; omega
  have := envySum_rk (vs := c.villages) (d := d) hl.symm (fun v hv => by rw [hl, hok.vl]; exact (hok.vil v hv).2.2.2.2) (by rw [hl]; exact divs_perm hn hd)
  rw [this, hl]
theorem ovS_take (c : Com) (d : List Int) : ∀ k, k ≤ d.length → ovS c d k = sumL ((overL c d).take k)
  | 0, _ => by simp [ovS, sumL]
  | k + 1, hk => by rw [ovS, ovS_take c d k (by omega), List.take_succ_eq_append_getElem (by rw [overL_len]; omega), sumL_snoc, overL_at]
theorem overB_ov {c : Com} {d : List Int} (hd : d ∈ divs c.villages.length) : overSum c d = ovS c d c.villages.length := by
  have hl := divs_row hd
  rw [ovS_take c d _ (by omega), List.take_of_length_le (by rw [overL_len, hl]; exact Nat.le_refl _), overSum]
theorem envyB_bd {c : Com} (hok : c.Ok 4) {d : List Int} (hd : d ∈ divs c.villages.length) : 0 ≤ envySum c.villages d ∧ envySum c.villages d ≤ 1000 := by
  have hl := divs_row hd
  have h1 := sumL_le (envyL c.villages d) d.length (envyL_mem c.villages d) d.length (by rw [envyL_len]; exact Nat.le_refl _)
  rw [List.take_of_length_le (by rw [envyL_len]; exact Nat.le_refl _)] at h1
  have hn : d.length ≤ 4 := by have := hok.vl; have := hok.n2; omega
  have h2 : (d.length : Int) * d.length ≤ 16 := by
    have := Int.ofNat_le.2 (Nat.mul_le_mul hn hn)
    rw [Int.natCast_mul] at this; exact this
  rw [envySum]; omega
theorem overB_bd {c : Com} (hok : c.Ok 4) {d : List Int} (hd : d ∈ divs c.villages.length) : 0 ≤ overSum c d ∧ overSum c d ≤ 1000 := by
  have hl := divs_row hd
  have h1 := sumL_le (overL c d) 60 (overL_mem hok d) d.length (by rw [overL_len]; exact Nat.le_refl _)
  rw [List.take_of_length_le (by rw [overL_len]; exact Nat.le_refl _)] at h1
  have hn : d.length ≤ 4 := by have := hok.vl; have := hok.n2; omega
  rw [overSum]; omega
/-- What a round reads. -/
def CkS (b : Nat) (vm vv : Value) (b1 o1 : Nat) (v1 : Value) (w : World) : Prop := Blk b #[vm, vv] 25 w ∧ w.cell? ⟨b1, o1, none⟩ = some v1
theorem CkS.drew {b : Nat} {vm vv : Value} {b1 o1 : Nat} {v1 : Value} {w : World} (h : CkS b vm vv b1 o1 v1 w) : CkS b vm vv b1 o1 v1 w.drew := h

set_option maxRecDepth 100000 in
set_option maxHeartbeats 1000000 in
theorem calm_c {A : Nat → Prop} {w : World} {vm vv : Value} {c : Com} (h : Cm A w vm vv c) :
    Calls Tryd.prog 17 #[.agg #[vm, vv]] w fun e w' => ∃ v', e = .returned (.tuple #[v', .int .i64 (leastN (envySum c.villages) c), .int .i64 (checkE c)]) ∧ Ints (fun b => w.heap.size ≤ b) w' v' (leastB (envySum c.villages) c) ∧ Below w.heap.size w w' := by
  obtain ⟨am, cpm, rfl, _, _⟩ := h.1.shape
  obtain ⟨av, cpv, rfl, _, _⟩ := h.2.shape
  have hB0 : Below w.heap.size w (w.alloc (.cells #[.slice am c.mountains.length cpm, .slice av c.villages.length cpv] 25)) := (Below.refl _ w).alloc (Nat.le_refl _) _
  have hbx : Blk w.heap.size #[.slice am c.mountains.length cpm, .slice av c.villages.length cpv] 25 (w.alloc (.cells #[.slice am c.mountains.length cpm, .slice av c.villages.length cpv] 25)) := Blk.new w _ _
  have h0 := h.call hB0
  by_cases hc : checkE c = 0
  · have hok := (checkE_zero c).1 hc
    have b0 : ((0 : Int) != 0) = false := rfl
    have HC := Lib.hid hc
    clear hc
    go_enter Tryd.func17, Tryd.ntmps17
    go_wp2_with fail
    refine (check_c h0).mono ?_
    rintro e w1 ⟨rfl, hB1⟩
    rw [HC.out]
    have h1 := h0.call hB1
    have hbx1 := hbx.call hB1
    have hT1 := bnx hB0 hB1
    have c0 := hbx1.cell 0
    have c1 := hbx1.cell 1
    clear h0 hbx hB0 hB1
    have hwk : Blk w1.heap.size #[.slice am c.mountains.length cpm, .slice av c.villages.length cpv] 60 (w1.alloc (.cells #[.slice am c.mountains.length cpm, .slice av c.villages.length cpv] 60)) := Blk.new w1 _ _
    have h2 := h1.alloc (.cells #[.slice am c.mountains.length cpm, .slice av c.villages.length cpv] 60)
    have hT2 := bal (o := .cells #[.slice am c.mountains.length cpm, .slice av c.villages.length cpv] 60) hT1
    have hl := least_c hwk h2 hok 69 (envySum c.villages) (fun w' vd d A' hB hd hm => sum_c (hwk.call hB) (h2.2.call hB) hd (by rw [divs_row hm]; exact Nat.le_refl _) (by rw [divs_row hm]; have := hok.vl; have := hok.n2; omega))
    have HL := Lib.hid hl
    clear hl
    go_wp2_with fail
    refine HL.out.mono ?_
    rintro e w2 ⟨v, b, hls, rfl, hv, hB2⟩
    go_wp2
    go_ret3
    have e1 : leastB (envySum c.villages) c = b := by rw [leastB, if_pos HC.out, hls]
    have e2 : leastN (envySum c.villages) c = (envySum c.villages) b := by rw [leastN, if_pos HC.out, e1]
    rw [e1, e2, HC.out]
    exact ⟨_, rfl, hv.wide fun k hk _ => by simp only [World.size_alloc] at hk; have := hT1.size; omega, bnx hT2 hB2⟩
  · have hb : (checkE c != 0) = true := by simpa using hc
    rw [leastN, leastB, if_neg hc, if_neg hc]
    clear hc
    go_enter Tryd.func17, Tryd.ntmps17
    go_wp2_with fail
    refine (check_c h0).mono ?_
    rintro e w1 ⟨rfl, hB1⟩
    go_wp2
    go_ret3
    exact ⟨_, rfl, ints_nil _ _, bnx hB0 hB1⟩

set_option maxRecDepth 100000 in
set_option maxHeartbeats 1000000 in
theorem room_c {A : Nat → Prop} {w : World} {vm vv : Value} {c : Com} (h : Cm A w vm vv c) :
    Calls Tryd.prog 20 #[.agg #[vm, vv]] w fun e w' => ∃ v', e = .returned (.tuple #[v', .int .i64 (leastN (overSum c) c), .int .i64 (checkE c)]) ∧ Ints (fun b => w.heap.size ≤ b) w' v' (leastB (overSum c) c) ∧ Below w.heap.size w w' := by
  obtain ⟨am, cpm, rfl, _, _⟩ := h.1.shape
  obtain ⟨av, cpv, rfl, _, _⟩ := h.2.shape
  have hB0 : Below w.heap.size w (w.alloc (.cells #[.slice am c.mountains.length cpm, .slice av c.villages.length cpv] 25)) := (Below.refl _ w).alloc (Nat.le_refl _) _
  have hbx : Blk w.heap.size #[.slice am c.mountains.length cpm, .slice av c.villages.length cpv] 25 (w.alloc (.cells #[.slice am c.mountains.length cpm, .slice av c.villages.length cpv] 25)) := Blk.new w _ _
  have h0 := h.call hB0
  by_cases hc : checkE c = 0
  · have hok := (checkE_zero c).1 hc
    have b0 : ((0 : Int) != 0) = false := rfl
    have HC := Lib.hid hc
    clear hc
    go_enter Tryd.func20, Tryd.ntmps20
    go_wp2_with fail
    refine (check_c h0).mono ?_
    rintro e w1 ⟨rfl, hB1⟩
    rw [HC.out]
    have h1 := h0.call hB1
    have hbx1 := hbx.call hB1
    have hT1 := bnx hB0 hB1
    have c0 := hbx1.cell 0
    have c1 := hbx1.cell 1
    clear h0 hbx hB0 hB1
    have hwk : Blk w1.heap.size #[.slice am c.mountains.length cpm, .slice av c.villages.length cpv] 60 (w1.alloc (.cells #[.slice am c.mountains.length cpm, .slice av c.villages.length cpv] 60)) := Blk.new w1 _ _
    have h2 := h1.alloc (.cells #[.slice am c.mountains.length cpm, .slice av c.villages.length cpv] 60)
    have hT2 := bal (o := .cells #[.slice am c.mountains.length cpm, .slice av c.villages.length cpv] 60) hT1
    have hl := least_c hwk h2 hok 75 (overSum c) (fun w' vd d A' hB hd hm => sumO_c (hwk.call hB) (h2.call hB) hok hd (divs_perm (by have := hok.vl; have := hok.n2; omega) hm))
    have HL := Lib.hid hl
    clear hl
    go_wp2_with fail
    refine HL.out.mono ?_
    rintro e w2 ⟨v, b, hls, rfl, hv, hB2⟩
    go_wp2
    go_ret3
    have e1 : leastB (overSum c) c = b := by rw [leastB, if_pos HC.out, hls]
    have e2 : leastN (overSum c) c = (overSum c) b := by rw [leastN, if_pos HC.out, e1]
    rw [e1, e2, HC.out]
    exact ⟨_, rfl, hv.wide fun k hk _ => by simp only [World.size_alloc] at hk; have := hT1.size; omega, bnx hT2 hB2⟩
  · have hb : (checkE c != 0) = true := by simpa using hc
    rw [leastN, leastB, if_neg hc, if_neg hc]
    clear hc
    go_enter Tryd.func20, Tryd.ntmps20
    go_wp2_with fail
    refine (check_c h0).mono ?_
    rintro e w1 ⟨rfl, hB1⟩
    go_wp2
    go_ret3
    exact ⟨_, rfl, ints_nil _ _, bnx hB0 hB1⟩

end Go.Proofs.YtmlikgjfpmjdcaaDoor
