/- The contract of short (mestalaw08): whether no list of commons has more than twenty elements; conditions: none. -/
import Derived.Test.YtmlikgjfpmjdcaaGreatDoorArgC
namespace Go.Proofs.YtmlikgjfpmjdcaaGreatDoor
open Go.RowKit

/-- Commons whose lists are short. -/
structure Com.Short (c : Com) : Prop where
  m : c.mountains.length ≤ 20
  v : c.villages.length ≤ 20
  l : ∀ v ∈ c.villages, v.likes.length ≤ 20
theorem Com.Short.sm {c : Com} (h : c.Short) : c.Sm := ⟨by have := h.m; omega, by have := h.v; omega, fun v hv => by have := h.l v hv; omega⟩

set_option maxRecDepth 100000 in
set_option maxHeartbeats 2000000 in
theorem short_c {A : Nat → Prop} {w : World} {vm vv : Value} {c : Com} (h : Cm A w vm vv c) :
    Calls Tryz.prog 5 #[.agg #[vm, vv]] w fun e w' => ∃ b : Bool, e = .returned (.bool b) ∧ (b = true → c.Short) ∧ Below w.heap.size w w' := by
  obtain ⟨am, cpm, rfl, _, _⟩ := h.1.shape
  obtain ⟨av, cpv, rfl, _, _⟩ := h.2.shape
  have nm := h.1.len
  have nv := h.2.len
  have hB0 : Below w.heap.size w (w.alloc (.cells #[.slice am c.mountains.length cpm, .slice av c.villages.length cpv] 25)) := (Below.refl _ w).alloc (Nat.le_refl _) _
  have hx : Blk w.heap.size #[.slice am c.mountains.length cpm, .slice av c.villages.length cpv] 25 (w.alloc (.cells #[.slice am c.mountains.length cpm, .slice av c.villages.length cpv] 25)) := Blk.new w _ _
  have h0 := h.call hB0
  go_enter Tryz.func5, Tryz.ntmps5
  go_wp2_with fail
  generalize w.alloc (.cells #[.slice am c.mountains.length cpm, .slice av c.villages.length cpv] 25) = w0 at *
  have c0 := hx.cell 0
  have c1 := hx.cell 1
  go_loopw [3] (fun i wr => ∃ k : Nat, k ≤ c.villages.length ∧ k ≤ 20 ∧ i = .int .i64 k ∧ (∀ j (a : j < c.villages.length), j < k → c.villages[j].likes.length ≤ 20) ∧ wr = w0) (fun i _ => c.villages.length - (intOf i).toNat)
  case atStart => exact ⟨0, Nat.zero_le _, by omega, rfl, fun j _ hj => by omega, rfl⟩
  case round =>
    obtain ⟨k, hk, hk20, rfl, hno, rfl⟩ := hrel
    have HNO := Lib.hid hno
    clear hno
    by_cases hlt : k < c.villages.length
    · by_cases h20 : k < 20
      · obtain ⟨b, o, rfl, -, -⟩ := h0.2.addr (by omega)
        obtain ⟨ao, cl, -, -, e3, hl⟩ := h0.2.at k hlt
        have nl := hl.len
        by_cases hll : c.villages[k].likes.length ≤ 20
        · obtain ⟨n, hn⟩ : ∃ n, n = c.villages[k].likes.length := ⟨_, rfl⟩
          rw [← hn] at e3 hll nl
          have HN := Lib.hid hn
          clear hn hl
          have b1 : decide ((n : Int) > 20) = false := decide_eq_false (by omega)
          go_wp2_with fail
          go_roundw
          case rel =>
            refine ⟨k + 1, by omega, by omega, by go_num, fun j a hj => ?_, by first | trivial | rfl⟩
            by_cases e : j = k
            · subst e; rw [← HN.out]; exact hll
            · exact HNO.out j a (by omega)
          case measure => simp [intOf]; omega
        · obtain ⟨n, hn⟩ : ∃ n, n = c.villages[k].likes.length := ⟨_, rfl⟩
          rw [← hn] at e3 hll nl
          clear hn hl
          have b1 : decide ((n : Int) > 20) = true := decide_eq_true (by omega)
          go_wp2_with fail
          go_ret
          exact ⟨_, rfl, fun h => by simp at h, hB0⟩
      · obtain rfl : k = 20 := by omega
        by_cases hm : c.mountains.length ≤ 20
        · have b1 : decide ((c.mountains.length : Int) ≤ 20) = true := decide_eq_true (by omega)
          have b2 : decide ((c.villages.length : Int) ≤ 20) = false := decide_eq_false (by omega)
          go_wp2_with fail
          go_ret
          exact ⟨_, rfl, fun h => by simp at h, hB0⟩
        · have b1 : decide ((c.mountains.length : Int) ≤ 20) = false := decide_eq_false (by omega)
          go_wp2_with fail
          go_ret
          exact ⟨_, rfl, fun h => by simp at h, hB0⟩
    · obtain rfl : k = c.villages.length := by omega
      by_cases hm : c.mountains.length ≤ 20
      · have b1 : decide ((c.mountains.length : Int) ≤ 20) = true := decide_eq_true (by omega)
        have b2 : decide ((c.villages.length : Int) ≤ 20) = true := decide_eq_true (by omega)
        go_wp2_with fail
        go_ret
        refine ⟨_, rfl, fun _ => ⟨hm, hk20, fun v hv => ?_⟩, hB0⟩
        obtain ⟨j, hj, rfl⟩ := List.getElem_of_mem hv
        exact HNO.out j hj hj
      · have b1 : decide ((c.mountains.length : Int) ≤ 20) = false := decide_eq_false (by omega)
        go_wp2_with fail
        go_ret
        exact ⟨_, rfl, fun h => by simp at h, hB0⟩

end Go.Proofs.YtmlikgjfpmjdcaaGreatDoor
