/- Some chapters return what is plain (mestatop); conditions: none. -/
import Derived.Test.YthchpoabncdicaaGrB
import Derived.Great.BuildSlice
namespace Go.Proofs.Ythchpoabncdicaa
open Go.RowKit

def comS : Com := ⟨[3], [⟨1, 0, [0]⟩]⟩
theorem ex_calm : leastB (envySum comS.villages) comS = [0] ∧ checkE comS = 0 := by decide +kernel
theorem ex_fed : fedAll ⟨3, 3, 0, 0, 0, 0⟩ ⟨1, 1, 1⟩ 3 = true ∧ fedAll ⟨3, 3, 0, 0, 0, 0⟩ ⟨1, 1, 1⟩ 4 = false := by decide +kernel
theorem heads3 {n : Int} (h : IsHeads ⟨3, 3, 0, 0, 0, 0⟩ ⟨1, 1, 1⟩ n) : n = 3 := by
  have hp : Pas.Ok ⟨3, 3, 0, 0, 0, 0⟩ := ⟨by decide, by decide, by decide, by decide, by decide, by decide⟩
  have h3 := h.fed hp (h := 3) (by decide) (by decide)
  have h4 := h.fed hp (h := 4) (by decide) (by decide)
  rw [ex_fed.1] at h3
  rw [ex_fed.2] at h4
  have := of_decide_eq_true h3.symm
  have := of_decide_eq_false h4.symm
  omega

set_option maxRecDepth 100000 in
set_option maxHeartbeats 1000000 in
theorem shorn_c (w : World) : Calls Try.prog 56 #[] w fun e w' => e = .returned (.bool true) ∧ Below w.heap.size w w' := by
  have hp : Pas.Ok ⟨3, 3, 0, 0, 0, 0⟩ := ⟨by decide, by decide, by decide, by decide, by decide, by decide⟩
  have hs : Sky.Ok ⟨1, 1, 1⟩ := ⟨by decide, by decide, by decide⟩
  go_enter Try.func56, Try.ntmps56
  go_wp2_with fail
  refine (heads_c (p := ⟨3, 3, 0, 0, 0, 0⟩) (s := ⟨1, 1, 1⟩) hp hs).mono ?_
  rintro e w1 ⟨m, rfl, hm, hB1⟩
  obtain rfl := heads3 hm
  clear hm
  go_wp2_with fail
  have hm1 : Ints (fun j => w1.heap.size ≤ j) (((w1.alloc (.cells #[.int .i64 3] 3)).alloc (.cells #[.int .i64 0] 3)).alloc (.cells #[.int .i64 1, .int .i64 0, .slice (some ⟨w1.heap.size + 1, 0, none⟩) 1 1] 51)) (.slice (some ⟨w1.heap.size, 0, none⟩) 1 1) [3] := ((show Ints _ _ _ [3] from arr_one w1 3 (.int .i64 3)).alloc _).alloc _
  have hl1 : Ints (fun j => w1.heap.size ≤ j) (((w1.alloc (.cells #[.int .i64 3] 3)).alloc (.cells #[.int .i64 0] 3)).alloc (.cells #[.int .i64 1, .int .i64 0, .slice (some ⟨w1.heap.size + 1, 0, none⟩) 1 1] 51)) (.slice (some ⟨w1.heap.size + 1, 0, none⟩) 1 1) [0] := by
    have h := (show Ints _ _ _ [0] from arr_one (w1.alloc (.cells #[.int .i64 3] 3)) 3 (.int .i64 0)).alloc (.cells #[.int .i64 1, .int .i64 0, .slice (some ⟨w1.heap.size + 1, 0, none⟩) 1 1] 51)
    rw [World.size_alloc] at h
    exact h.wide fun k hk _ => by omega
  have hv1 : Arr (fun j => w1.heap.size ≤ j) (((w1.alloc (.cells #[.int .i64 3] 3)).alloc (.cells #[.int .i64 0] 3)).alloc (.cells #[.int .i64 1, .int .i64 0, .slice (some ⟨w1.heap.size + 1, 0, none⟩) 1 1] 51)) (.slice (some ⟨w1.heap.size + 1 + 1, 0, none⟩) 1 1) 1 [.int .i64 1, .int .i64 0, .slice (some ⟨w1.heap.size + 1, 0, none⟩) 1 1] := by
    have h := own_lit ((w1.alloc (.cells #[.int .i64 3] 3)).alloc (.cells #[.int .i64 0] 3)) 51 3 #[.int .i64 1, .int .i64 0, .slice (some ⟨w1.heap.size + 1, 0, none⟩) 1 1] 1 rfl (by omega)
    rw [World.size_alloc, World.size_alloc] at h
    exact (Own.arr h).wide fun k hk _ => by omega
  have hC : Cm (fun j => w1.heap.size ≤ j) (((w1.alloc (.cells #[.int .i64 3] 3)).alloc (.cells #[.int .i64 0] 3)).alloc (.cells #[.int .i64 1, .int .i64 0, .slice (some ⟨w1.heap.size + 1, 0, none⟩) 1 1] 51)) (.slice (some ⟨w1.heap.size, 0, none⟩) 1 1) (.slice (some ⟨w1.heap.size + 1 + 1, 0, none⟩) 1 1) comS := by
    refine ⟨hm1, [.slice (some ⟨w1.heap.size + 1, 0, none⟩) 1 1], rfl, hv1, fun i a b => ?_⟩
    have hi : i = 0 := by simp at a; omega
    subst hi
    exact hl1
  have hBW : Below w1.heap.size w1 (((w1.alloc (.cells #[.int .i64 3] 3)).alloc (.cells #[.int .i64 0] 3)).alloc (.cells #[.int .i64 1, .int .i64 0, .slice (some ⟨w1.heap.size + 1, 0, none⟩) 1 1] 51)) := (((Below.refl _ w1).alloc (Nat.le_refl _) _).alloc (by simp) _).alloc (by simp; omega) _
  have hB3 := bnx hB1 hBW
  clear hm1 hl1 hv1 hB1 hBW
  have hca := calm_c hC
  rw [ex_calm.1, ex_calm.2] at hca
  have HCA := Lib.hid hca
  clear hca hC
  generalize (((w1.alloc (.cells #[.int .i64 3] 3)).alloc (.cells #[.int .i64 0] 3)).alloc (.cells #[.int .i64 1, .int .i64 0, .slice (some ⟨w1.heap.size + 1, 0, none⟩) 1 1] 51)) = w3 at *
  refine HCA.out.mono ?_
  rintro e w4 ⟨v, rfl, hv, hB4⟩
  obtain ⟨av, cv, rfl, _, _⟩ := hv.shape
  obtain ⟨L, hL⟩ : ∃ L, L = leastN (envySum comS.villages) comS := ⟨_, rfl⟩
  rw [← hL]
  clear hL HCA
  go_wp2_with fail
  have hB5 := (Below.refl w4.heap.size w4).alloc (Nat.le_refl _) (.cells #[.int .i64 0] 3)
  refine (sameInts_t (hv.call hB5) (show Ints _ _ _ [0] from arr_one w4 3 (.int .i64 0))).mono ?_
  rintro e w6 ⟨rfl, hB6⟩
  go_wp2_with fail
  go_ret
  exact ⟨rfl, bnx (bnx hB3 hB4) (bnx hB5 hB6)⟩

end Go.Proofs.Ythchpoabncdicaa
