/- SameRanges and SameFurrows of mestakit (edge); conditions: the lists read as said. -/
import Derived.Test.YtgdifckmjdjcpaaChk3
namespace Go.Proofs.Ytgdifckmjdjcpaa
open Go.RowKit

theorem ne52 (r s : Int × Int) {b : Bool} (h : (r != s) = b) (w : World) : (binOp .neq 52 (.agg #[.int .i64 r.1, .int .i64 r.2]) (.agg #[.int .i64 s.1, .int .i64 s.2])).run Try.prog w = .ok (.bool b) w := by
  subst h
  obtain ⟨a, b⟩ := r
  obtain ⟨c, d⟩ := s
  by_cases h1 : a = c <;> by_cases h2 : b = d <;> simp [go_sem, h1, h2, bne]
theorem ne76 (r s : Fu) {b : Bool} (h : (!(r.point == s.point && (r.year == s.year && r.off == s.off))) = b) (w : World) : (binOp .neq 76 (.agg #[.int .i64 r.point, .int .i64 r.year, .int .i64 r.off]) (.agg #[.int .i64 s.point, .int .i64 s.year, .int .i64 s.off])).run Try.prog w = .ok (.bool b) w := by
  subst h
  by_cases h1 : r.point = s.point <;> by_cases h2 : r.year = s.year <;> by_cases h3 : r.off = s.off <;> simp [go_sem, h1, h2, h3]
theorem fu_ext {r s : Fu} (h : (r.point == s.point && (r.year == s.year && r.off == s.off)) = true) : r = s := by
  simp only [Bool.and_eq_true, beq_iff_eq] at h
  obtain ⟨a, b, c⟩ := r
  obtain ⟨d, e, f⟩ := s
  simp only at h
  rw [h.1, h.2.1, h.2.2]
theorem fu_refl (r : Fu) : (r.point == r.point && (r.year == r.year && r.off == r.off)) = true := by simp
theorem rg_ext {r s : Int × Int} (h : (r == s) = true) : r = s := eq_of_beq h
theorem rg_refl (r : Int × Int) : (r == r) = true := beq_self_eq_true r

set_option maxHeartbeats 1000000 in
theorem sameRanges_q {A A' : Nat → Prop} {w : World} {v1 v2 : Value} {l1 l2 : List (Int × Int)} (h1 : RgsM A w v1 l1) (h2 : RgsM A' w v2 l2) :
    Calls Try.prog 31 #[v1, v2] w fun e w' => (∃ b : Bool, e = .returned (.bool b) ∧ (b = true ↔ l1 = l2)) ∧ Qt w w' := by
  obtain ⟨a1, c1, rfl, hc1, hm1⟩ := h1.shape
  obtain ⟨a2, c2, rfl, hc2, hm2⟩ := h2.shape
  have n1 := h1.len
  have n2 := h2.len
  by_cases hl : l1.length = l2.length
  · go_enter Try.func31, Try.ntmps31
    have hd : (((l1.length : Int)) != (l2.length : Int)) = false := by simp; omega
    have HL := Lib.hid hl; clear hl
    go_wp2
    go_loopw [5] (fun v wr => ∃ k : Nat, k ≤ l1.length ∧ v = .int .i64 k ∧ (∀ j (a : j < l1.length) (b : j < l2.length), j < k → l1[j] = l2[j]) ∧ Qt w wr) (fun v _ => l1.length - (intOf v).toNat)
    case atStart => exact ⟨0, Nat.zero_le _, rfl, by omega, Qt.refl _⟩
    case round =>
      obtain ⟨k, hk, rfl, hpre, hQ⟩ := hrel
      have HP := Lib.hid hpre; clear hpre
      by_cases hlt : k < l1.length
      · have hlt2 : k < l2.length := by have := HL.out; omega
        obtain ⟨b1, o1, rfl, _, _⟩ := rgs_addr h1 (by omega)
        obtain ⟨b2, o2, rfl, _, _⟩ := rgs_addr h2 (by omega)
        obtain ⟨x0, x1⟩ := rgs_at (h1.qt (hQ.drewN 1)) k hlt
        obtain ⟨y0, y1⟩ := rgs_at (h2.qt (hQ.drewN 1)) k hlt2
        obtain ⟨p0, p1⟩ := rgs_at (h1.qt hQ) k hlt
        obtain ⟨q0, q1⟩ := rgs_at (h2.qt hQ) k hlt2
        cases hb : (l1[k] == l2[k]) with
        | true =>
          have HE := Lib.hid (rg_ext hb)
          have hn := ne52 l1[k] l2[k] (b := false) (by first | (rw [hb]; rfl) | (simp only [bne, hb, Bool.not_true]))
          clear hb
          go_wp2
          go_quiet (fail)
          go_wp2
          go_roundw
          case rel =>
            refine ⟨k + 1, by omega, by go_num, fun j a b hj => ?_, hQ.drewN _⟩
            by_cases e : j = k
            · subst e; exact HE.out
            · exact HP.out j a b (by omega)
          case measure => simp [intOf]; omega
        | false =>
          have hne : l1 ≠ l2 := fun e => by
            subst e
            rw [rg_refl] at hb
            exact absurd hb (by decide)
          have hn := ne52 l1[k] l2[k] (b := true) (by first | (rw [hb]; rfl) | (simp only [bne, hb, Bool.not_false]))
          have HE := Lib.hid hne
          clear hb hne
          go_wp2
          go_quiet (fail)
          go_wp2
          go_ret
          exact ⟨⟨false, rfl, by simp [HE.out]⟩, hQ.drewN _⟩
      · go_wp2
        go_ret
        exact ⟨⟨true, rfl, by simp only [true_iff]; exact List.ext_getElem HL.out fun j a b => HP.out j a b (by omega)⟩, hQ⟩
  · go_enter Try.func31, Try.ntmps31
    have hd : (((l1.length : Int)) != (l2.length : Int)) = true := by simp; omega
    have hne : l1 ≠ l2 := fun e => hl (by rw [e])
    have HE := Lib.hid hne
    clear hne
    go_wp2
    go_ret
    exact ⟨⟨false, rfl, by simp [HE.out]⟩, Qt.refl _⟩

set_option maxHeartbeats 1000000 in
theorem sameFurrows_q {A A' : Nat → Prop} {w : World} {v1 v2 : Value} {l1 l2 : List Fu} (h1 : FusM A w v1 l1) (h2 : FusM A' w v2 l2) :
    Calls Try.prog 40 #[v1, v2] w fun e w' => (∃ b : Bool, e = .returned (.bool b) ∧ (b = true ↔ l1 = l2)) ∧ Qt w w' := by
  obtain ⟨a1, c1, rfl, hc1, hm1⟩ := h1.shape
  obtain ⟨a2, c2, rfl, hc2, hm2⟩ := h2.shape
  have n1 := h1.len
  have n2 := h2.len
  by_cases hl : l1.length = l2.length
  · go_enter Try.func40, Try.ntmps40
    have hd : (((l1.length : Int)) != (l2.length : Int)) = false := by simp; omega
    have HL := Lib.hid hl; clear hl
    go_wp2
    go_loopw [5] (fun v wr => ∃ k : Nat, k ≤ l1.length ∧ v = .int .i64 k ∧ (∀ j (a : j < l1.length) (b : j < l2.length), j < k → l1[j] = l2[j]) ∧ Qt w wr) (fun v _ => l1.length - (intOf v).toNat)
    case atStart => exact ⟨0, Nat.zero_le _, rfl, by omega, Qt.refl _⟩
    case round =>
      obtain ⟨k, hk, rfl, hpre, hQ⟩ := hrel
      have HP := Lib.hid hpre; clear hpre
      by_cases hlt : k < l1.length
      · have hlt2 : k < l2.length := by have := HL.out; omega
        obtain ⟨b1, o1, rfl, _, _⟩ := fus_addr h1 (by omega)
        obtain ⟨b2, o2, rfl, _, _⟩ := fus_addr h2 (by omega)
        obtain ⟨x0, x1, x2⟩ := fus_at (h1.qt (hQ.drewN 1)) k hlt
        obtain ⟨y0, y1, y2⟩ := fus_at (h2.qt (hQ.drewN 1)) k hlt2
        obtain ⟨p0, p1, p2⟩ := fus_at (h1.qt hQ) k hlt
        obtain ⟨q0, q1, q2⟩ := fus_at (h2.qt hQ) k hlt2
        cases hb : (l1[k].point == l2[k].point && (l1[k].year == l2[k].year && l1[k].off == l2[k].off)) with
        | true =>
          have HE := Lib.hid (fu_ext hb)
          have hn := ne76 l1[k] l2[k] (b := false) (by first | (rw [hb]; rfl) | (simp only [bne, hb, Bool.not_true]))
          clear hb
          go_wp2
          go_quiet (fail)
          go_wp2
          go_roundw
          case rel =>
            refine ⟨k + 1, by omega, by go_num, fun j a b hj => ?_, hQ.drewN _⟩
            by_cases e : j = k
            · subst e; exact HE.out
            · exact HP.out j a b (by omega)
          case measure => simp [intOf]; omega
        | false =>
          have hne : l1 ≠ l2 := fun e => by
            subst e
            rw [fu_refl] at hb
            exact absurd hb (by decide)
          have hn := ne76 l1[k] l2[k] (b := true) (by first | (rw [hb]; rfl) | (simp only [bne, hb, Bool.not_false]))
          have HE := Lib.hid hne
          clear hb hne
          go_wp2
          go_quiet (fail)
          go_wp2
          go_ret
          exact ⟨⟨false, rfl, by simp [HE.out]⟩, hQ.drewN _⟩
      · go_wp2
        go_ret
        exact ⟨⟨true, rfl, by simp only [true_iff]; exact List.ext_getElem HL.out fun j a b => HP.out j a b (by omega)⟩, hQ⟩
  · go_enter Try.func40, Try.ntmps40
    have hd : (((l1.length : Int)) != (l2.length : Int)) = true := by simp; omega
    have hne : l1 ≠ l2 := fun e => hl (by rw [e])
    have HE := Lib.hid hne
    clear hne
    go_wp2
    go_ret
    exact ⟨⟨false, rfl, by simp [HE.out]⟩, Qt.refl _⟩

end Go.Proofs.Ytgdifckmjdjcpaa
