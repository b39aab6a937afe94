/- Whether a division gives no village a mountain that it had in some years (mestaref08.fits); conditions: all lists as long as the division. -/
import Derived.Test.YthchpoabncdicaaRF3
namespace Go.Proofs.Ythchpoabncdicaa
open Go.RowKit

/-- Two divisions agree in none of the first k places. -/
def apartTo (a d : List Int) (k : Nat) : Bool := (List.range k).all fun i => !(a.getD i 0 == d.getD i 0)
theorem apartTo_succ (a d : List Int) (k : Nat) : apartTo a d (k + 1) = (apartTo a d k && !(a.getD k 0 == d.getD k 0)) := by simp [apartTo, List.range_succ]
def fitsTo (ys : List (List Int)) (d : List Int) (k : Nat) : Bool := (ys.take k).all fun a => apartTo a d d.length
theorem fitsTo_succ (ys : List (List Int)) (d : List Int) (k : Nat) (hk : k < ys.length) : fitsTo ys d (k + 1) = (fitsTo ys d k && apartTo ys[k] d d.length) := by
  rw [fitsTo, fitsTo, List.take_succ_eq_append_getElem hk, List.all_append]; simp
theorem fits_no {ys : List (List Int)} {d : List Int} {k j : Nat} (hk : k < ys.length) (hj : j < d.length) (he : ys[k].getD j 0 = d.getD j 0) : fitsTo ys d ys.length = false := by
  rw [fitsTo, List.take_length, List.all_eq_false]
  refine ⟨ys[k], List.getElem_mem hk, ?_⟩
  rw [apartTo, Bool.not_eq_true, List.all_eq_false]
  exact ⟨j, by simpa using hj, by rw [he]; simp⟩

set_option maxRecDepth 100000 in
set_option maxHeartbeats 2000000 in
theorem rfits_c {A A' : Nat → Prop} {w : World} {v1 v2 : Value} {ys : List (List Int)} {d : List Int} (h1 : Grid A w v1 ys) (h2 : Ints A' w v2 d) (hl : ∀ a ∈ ys, a.length = d.length) (hy : ys.length ≤ 4) (hd4 : d.length ≤ 4) :
    Calls Try.prog 132 #[v1, v2] w fun e w' => e = .returned (.bool (fitsTo ys d ys.length)) ∧ Qt w w' := by
  obtain ⟨a1, c1, rfl, _, _⟩ := h1.shape
  obtain ⟨a2, c2, rfl, _, _⟩ := h2.shape
  obtain ⟨R, hR⟩ : ∃ R, R = fitsTo ys d ys.length := ⟨_, rfl⟩
  rw [← hR]
  have HR := Lib.hid hR
  have HL := Lib.hid hl
  clear hR hl
  go_enter Try.func132, Try.ntmps132
  go_wp2_with fail
  go_loopw [5] (fun s wr => ∃ k : Nat, k ≤ ys.length ∧ s = .int .i64 k ∧ fitsTo ys d k = true ∧ Qt w wr) (fun s _ => ys.length - (intOf s).toNat)
  case atStart => exact ⟨0, Nat.zero_le _, rfl, by simp [fitsTo], Qt.refl _⟩
  case round =>
    obtain ⟨k, hk, rfl, hft, hq⟩ := hrel
    have HFT := Lib.hid hft
    clear hft
    by_cases hkl : k < ys.length
    · go_wp2_with fail
      go_loopw [6] (fun s wx => ∃ j : Nat, j ≤ d.length ∧ s = .int .i64 j ∧ apartTo (ys[k]'hkl) d j = true ∧ Qt w wx) (fun s _ => d.length - (intOf s).toNat)
      case atStart => exact ⟨0, Nat.zero_le _, rfl, by simp [apartTo], hq⟩
      case round =>
        rename World => wx
        obtain ⟨j, hj, rfl, hap, hqx⟩ := hrel
        have HAP := Lib.hid hap
        clear hap
        by_cases hjl : j < d.length
        · obtain ⟨b1, o1, rfl, -, -⟩ := (h1.qt hqx).addr (by omega)
          obtain ⟨ar, cr, r1, hrow⟩ := (h1.qt hqx).row k hkl
          have hlr := HL.out _ (List.getElem_mem hkl)
          have hjr : j < (ys[k]'hkl).length := by omega
          have hsuc := apartTo_succ (ys[k]'hkl) d j
          have e1 : (ys[k]'hkl).getD j 0 = (ys[k]'hkl)[j]'hjr := by simp [hjr]
          have e2 : d.getD j 0 = d[j]'hjl := by simp [hjl]
          have hno := fun he => fits_no (ys := ys) (d := d) hkl hjl he
          rw [e1, e2] at hsuc hno
          obtain ⟨br, or, rfl, -, -, hrc⟩ := hrow.addr (by omega)
          obtain ⟨b2, o2, rfl, -, -, hc2⟩ := (h2.qt hqx).addr (by omega)
          have q1 := hrc j hjr
          have q2 := hc2 j hjl
          rw [hlr] at r1
          obtain ⟨x, hx⟩ : ∃ x, x = (ys[k]'hkl)[j]'hjr := ⟨_, rfl⟩
          obtain ⟨y, hye⟩ : ∃ y, y = d[j]'hjl := ⟨_, rfl⟩
          rw [← hx] at q1 hsuc hno
          rw [← hye] at q2 hsuc hno
          clear hx hye e1 e2 hrc hc2 hlr
          by_cases hxy : x = y
          · have hR0 := hno hxy
            rw [← HR.out] at hR0
            have HR0 := Lib.hid hR0
            have b1' : (x == y) = true := by simpa using hxy
            clear hno hsuc hR0 hxy
            go_wp2_with fail
            go_quiet (fail)
            rename_i nq
            go_wp2
            go_ret
            exact ⟨ret_bool (by rw [HR0.out]), hqx.drewN _⟩
          · have b1' : (x == y) = false := by simpa using hxy
            rw [b1', HAP.out] at hsuc
            have HS := Lib.hid hsuc
            clear hno hsuc hxy
            go_wp2_with fail
            go_quiet (fail)
            rename_i nq
            go_wp2
            go_roundw
            case rel => exact ⟨j + 1, by omega, by go_num, by rw [HS.out]; rfl, hqx.drewN _⟩
            case measure => simp [intOf]; omega
        · obtain rfl : j = d.length := by omega
          have hsf := fitsTo_succ ys d k hkl
          rw [HFT.out, HAP.out] at hsf
          have HSF := Lib.hid hsf
          clear hsf
          go_wp2
          go_roundw
          case rel => exact ⟨k + 1, by omega, by go_num, by rw [HSF.out]; rfl, hqx⟩
          case measure => simp [intOf]; omega
    · obtain rfl : k = ys.length := by omega
      go_wp2
      go_ret
      exact ⟨ret_bool (by rw [HR.out, HFT.out]), hq⟩

end Go.Proofs.Ythchpoabncdicaa
