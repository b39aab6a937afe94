/- The contract of just (mestalaw08); conditions: villages in bounds, a list of places within bounds. -/
import Derived.Test.YthchpoabncdicaaLastP
import Derived.Test.YthchpoabncdicaaOrd
namespace Go.Proofs.Ythchpoabncdicaa
open Go.RowKit

/-- The claim of one upon another. -/
def JustAt (vs : List Vil) (l : List Int) (i k : Nat) : Prop := i ≠ k → l.getD i 0 < her vs i → 0 < l.getD k 0 →
  hea vs i * l.getD k 0 ≤ hea vs k * (l.getD i 0 + 1) ∧ (hea vs i * l.getD k 0 = hea vs k * (l.getD i 0 + 1) → k < i)

set_option maxRecDepth 100000 in
set_option maxHeartbeats 4000000 in
theorem just_at {A A' : Nat → Prop} {w : World} {v1 v2 : Value} {vs : List Vil} {l : List Int} (h1 : Vils A w v1 vs) (h2 : Ints A' w v2 l) (hl : l.length = vs.length) (hv : VOk vs) (hh : HOk l) :
    Calls Try.prog 40 #[v1, v2] w fun e w' => ∃ b : Bool, e = .returned (.bool b) ∧ (b = true ↔ ∀ i k, i < vs.length → k < vs.length → JustAt vs l i k) ∧ Qt w w' := by
  obtain ⟨a1, c1, rfl, hc1, hm1⟩ := h1.shape
  have hs2 := h2.shape
  rw [hl] at hs2
  obtain ⟨a2, c2, rfl, hc2, hm2⟩ := hs2
  have n1 := h1.len
  have HL := Lib.hid hl; clear hl
  go_enter Try.func40, Try.ntmps40
  go_wp2
  go_loopw [5] (fun i wr => ∃ k : Nat, k ≤ vs.length ∧ i = .int .i64 k ∧ (∀ a b, a < k → b < vs.length → JustAt vs l a b) ∧ Qt w wr) (fun i _ => vs.length - (intOf i).toNat)
  case atStart => exact ⟨0, Nat.zero_le _, rfl, (fun a b h => by omega), Qt.refl _⟩
  case round =>
    obtain ⟨i, hi, rfl, hpre, hq⟩ := hrel
    have HPRE := Lib.hid hpre
    clear hpre
    by_cases hlt : i < vs.length
    · go_wp2
      go_loopw [6] (fun s wx => ∃ k : Nat, k ≤ vs.length ∧ s = .int .i64 k ∧ (∀ b, b < k → JustAt vs l i b) ∧ Qt w wx) (fun s _ => vs.length - (intOf s).toNat)
      case atStart => exact ⟨0, Nat.zero_le _, rfl, (fun b h => by omega), hq⟩
      case round =>
        rename World => wx
        obtain ⟨k, hk, rfl, hpre2, hqx⟩ := hrel
        have HPRE2 := Lib.hid hpre2
        clear hpre2
        by_cases hkl : k < vs.length
        · obtain ⟨b1, o1, rfl, _, hb1⟩ := h1.addr (by omega)
          obtain ⟨b2, o2, rfl, _, hb2, _⟩ := h2.addr (by have := HL.out; omega)
          have hil : i < l.length := by have := HL.out; omega
          have hkl2 : k < l.length := by have := HL.out; omega
          obtain ⟨p1, d1, g1, g2, _, _⟩ := (h1.qt hqx).at i hlt
          obtain ⟨p2, d2, g3, _, _, _⟩ := (h1.qt hqx).at k hkl
          have g4 := (h2.qt hqx).cell i hil
          have g5 := (h2.qt hqx).cell k hkl2
          have hvi := hv _ (List.getElem_mem hlt)
          have hvk := hv _ (List.getElem_mem hkl)
          have hhi := hh _ (List.getElem_mem hil)
          have hhk := hh _ (List.getElem_mem hkl2)
          have e1 : l.getD i 0 = l[i] := by simp [hil]
          have e2 : l.getD k 0 = l[k] := by simp [hkl2]
          have hJ : JustAt vs l i k ↔ (i ≠ k → l[i] < vs[i].herd → 0 < l[k] → vs[i].hearths * l[k] ≤ vs[k].hearths * (l[i] + 1) ∧ (vs[i].hearths * l[k] = vs[k].hearths * (l[i] + 1) → k < i)) := by
            rw [JustAt, e1, e2, her_at hlt, hea_at hlt, hea_at hkl]
          clear e1 e2
          obtain ⟨xi, hxi⟩ : ∃ xi, xi = l[i] := ⟨_, rfl⟩
          obtain ⟨xk, hxk⟩ : ∃ xk, xk = l[k] := ⟨_, rfl⟩
          obtain ⟨y, hy⟩ : ∃ y, y = vs[i].hearths := ⟨_, rfl⟩
          obtain ⟨z, hz⟩ : ∃ z, z = vs[k].hearths := ⟨_, rfl⟩
          obtain ⟨hd, hhd⟩ : ∃ hd, hd = vs[i].herd := ⟨_, rfl⟩
          rw [← hxi] at hJ g4 hhi
          rw [← hxk] at hJ g5 hhk
          rw [← hy] at hJ g1 hvi
          rw [← hz] at hJ g3 hvk
          rw [← hhd] at hJ g2 hvi
          clear hxi hxk hy hz hhd
          have m1 := mul_bd (a := y) (b := xk) (by omega) (by omega) (by omega) (by omega)
          have m2 := mul_bd (a := z) (b := xi + 1) (by omega) (by omega) (by omega) (by omega)
          have s2 : IntKind.i64.wrap (xi + 1) = xi + 1 := IntWalk.i64_in _ (by omega)
          obtain ⟨p, hp⟩ : ∃ p, p = y * xk := ⟨_, rfl⟩
          obtain ⟨q, hqq⟩ : ∃ q, q = z * (xi + 1) := ⟨_, rfl⟩
          rw [← hp] at hJ m1
          rw [← hqq] at hJ m2
          have s3 : IntKind.i64.wrap (y * xk) = p := by rw [← hp]; exact IntWalk.i64_in _ (by omega)
          have s4 : IntKind.i64.wrap (z * (xi + 1)) = q := by rw [← hqq]; exact IntWalk.i64_in _ (by omega)
          clear hp hqq m1 m2
          have HJJ := Lib.hid hJ
          clear hJ
          by_cases hik : i = k
          · have hJ : JustAt vs l i k := HJJ.out.2 (fun h => absurd hik h)
            have HJ := Lib.hid hJ
            have bik : ((i : Int) == (k : Int)) = true := by simp [hik]
            have HIK := Lib.hid hik
            clear hJ hik
            go_wp2
            go_quiet (fail)
            go_wp2
            go_roundw
            case rel =>
              refine ⟨k + 1, by omega, by go_num, fun b hb => ?_, hqx.drewN _⟩
              by_cases e : b = k
              · subst e; exact HJ.out
              · exact HPRE2.out b (by omega)
            case measure => simp [intOf]; omega
          · have bik : ((i : Int) == (k : Int)) = false := by simp; omega
            by_cases hw : hd ≤ xi
            · have hJ : JustAt vs l i k := HJJ.out.2 (fun _ h => by omega)
              have HJ := Lib.hid hJ
              have b2 : decide (xi ≥ hd) = true := decide_eq_true hw
              clear hJ
              go_wp2
              go_quiet (fail)
              go_wp2
              go_roundw
              case rel =>
                refine ⟨k + 1, by omega, by go_num, fun b hb => ?_, hqx.drewN _⟩
                by_cases e : b = k
                · subst e; exact HJ.out
                · exact HPRE2.out b (by omega)
              case measure => simp [intOf]; omega
            · have b2 : decide (xi ≥ hd) = false := decide_eq_false hw
              have b2' : xi < hd := by omega
              by_cases h0 : xk = 0
              · have hJ : JustAt vs l i k := HJJ.out.2 (fun _ _ h => by omega)
                have HJ := Lib.hid hJ
                clear hJ
                subst h0
                go_wp2
                go_quiet (fail)
                go_wp2
                go_roundw
                case rel =>
                  refine ⟨k + 1, by omega, by go_num, fun b hb => ?_, hqx.drewN _⟩
                  by_cases e : b = k
                  · subst e; exact HJ.out
                  · exact HPRE2.out b (by omega)
                case measure => simp [intOf]; omega
              · have b3 : (xk == 0) = false := by simpa using h0
                by_cases hgt : q < p
                · have hJ : ¬ JustAt vs l i k := fun h => by have := (HJJ.out.1 h hik b2' (by omega)).1; omega
                  have HJ := Lib.hid hJ
                  have b4 : decide (p > q) = true := decide_eq_true hgt
                  clear hJ
                  go_wp2
                  go_quiet (fail)
                  go_wp2
                  go_quiet (fail)
                  go_wp2
                  go_ret
                  exact ⟨false, rfl, ⟨fun h => (by cases h), fun h => absurd (h i k hlt hkl) HJ.out⟩, hqx.drewN _⟩
                · have b4 : decide (p > q) = false := decide_eq_false hgt
                  have b4' : p ≤ q := by omega
                  by_cases heq : p = q
                  · have b5 : (p == q) = true := by simp [heq]
                    by_cases hlk : i < k
                    · have hJ : ¬ JustAt vs l i k := fun h => by have := (HJJ.out.1 h hik b2' (by omega)).2 heq; omega
                      have HJ := Lib.hid hJ
                      have b6 : decide ((i : Int) < (k : Int)) = true := by simp; omega
                      subst heq
                      clear hJ
                      go_wp2
                      go_quiet (fail)
                      go_wp2
                      go_quiet (fail)
                      go_wp2
                      go_ret
                      exact ⟨false, rfl, ⟨fun h => (by cases h), fun h => absurd (h i k hlt hkl) HJ.out⟩, hqx.drewN _⟩
                    · have hJ : JustAt vs l i k := HJJ.out.2 (fun _ _ _ => ⟨b4', fun _ => by omega⟩)
                      have HJ := Lib.hid hJ
                      have b6 : decide ((i : Int) < (k : Int)) = false := by simp; omega
                      subst heq
                      clear hJ
                      go_wp2
                      go_quiet (fail)
                      go_wp2
                      go_quiet (fail)
                      go_wp2
                      go_roundw
                      case rel =>
                        refine ⟨k + 1, by omega, by go_num, fun b hb => ?_, hqx.drewN _⟩
                        by_cases e : b = k
                        · subst e; exact HJ.out
                        · exact HPRE2.out b (by omega)
                      case measure => simp [intOf]; omega
                  · have b5 : (p == q) = false := by simpa using heq
                    have hJ : JustAt vs l i k := HJJ.out.2 (fun _ _ _ => ⟨b4', fun h => absurd h heq⟩)
                    have HJ := Lib.hid hJ
                    clear hJ
                    go_wp2
                    go_quiet (fail)
                    go_wp2
                    go_quiet (fail)
                    go_wp2
                    go_roundw
                    case rel =>
                      refine ⟨k + 1, by omega, by go_num, fun b hb => ?_, hqx.drewN _⟩
                      by_cases e : b = k
                      · subst e; exact HJ.out
                      · exact HPRE2.out b (by omega)
                    case measure => simp [intOf]; omega
        · obtain rfl : k = vs.length := by omega
          go_wp2
          go_roundw
          case rel =>
            refine ⟨i + 1, by omega, by go_num, fun a b ha hb => ?_, hqx⟩
            by_cases e : a = i
            · subst e; exact HPRE2.out b hb
            · exact HPRE.out a b (by omega) hb
          case measure => simp [intOf]; omega
    · obtain rfl : i = vs.length := by omega
      go_wp2
      go_ret
      exact ⟨true, rfl, ⟨fun _ => HPRE.out, fun _ => rfl⟩, hq⟩

end Go.Proofs.Ythchpoabncdicaa
