/- The examples' commons in blocks, and what the program answers at them; conditions: none. -/
import Derived.Test.YtmlikgjfpmjdcaaDoorLst2
import Derived.Test.YtmlikgjfpmjdcaaDoorGrp4
import Derived.Test.YtmlikgjfpmjdcaaDoorYR1
import Derived.Test.YtmlikgjfpmjdcaaDoorLate1
import Derived.Test.YtmlikgjfpmjdcaaDoorC1
import Derived.Test.YtmlikgjfpmjdcaaDoorOv1
import Derived.Test.YtmlikgjfpmjdcaaDoorLwr
namespace Go.Proofs.YtmlikgjfpmjdcaaDoor
open Go.RowKit

/-- The examples' commons, laid out. -/
structure HB (lo : Nat) (m l1 l2 l3 bv : Nat) (cs : Array Value) (w : World) : Prop where
  fm : Blk m #[.int .i64 30, .int .i64 20, .int .i64 12] 3 w
  f1 : Blk l1 #[.int .i64 2, .int .i64 0, .int .i64 1] 3 w
  f2 : Blk l2 #[.int .i64 0, .int .i64 2, .int .i64 1] 3 w
  f3 : Blk l3 #[.int .i64 0, .int .i64 1, .int .i64 2] 3 w
  fv : Blk bv cs 28 w
  fo : lo ≤ m ∧ m < l1 ∧ l1 < l2 ∧ l2 < l3 ∧ l3 < bv
def vcs (h1 d1 : Int) (l1 l2 l3 : Nat) : Array Value := #[.int .i64 8, .int .i64 25, .slice (some ⟨l1, 0, none⟩) 3 3, .int .i64 h1, .int .i64 d1, .slice (some ⟨l2, 0, none⟩) 3 3, .int .i64 3, .int .i64 14, .slice (some ⟨l3, 0, none⟩) 3 3]
theorem HB.keep {lo m l1 l2 l3 bv : Nat} {cs : Array Value} {w w' : World} (h : HB lo m l1 l2 l3 bv cs w) (hk : ∀ q, m ≤ q → q ≤ bv → w'.heap[q]? = w.heap[q]?) : HB lo m l1 l2 l3 bv cs w' :=
  have o := h.fo
  ⟨h.fm.keep (hk _ (by omega) (by omega)), h.f1.keep (hk _ (by omega) (by omega)), h.f2.keep (hk _ (by omega) (by omega)), h.f3.keep (hk _ (by omega) (by omega)), h.fv.keep (hk _ (by omega) (by omega)), o⟩
theorem HB.call {lo m l1 l2 l3 bv : Nat} {cs : Array Value} {w w' : World} (h : HB lo m l1 l2 l3 bv cs w) (hB : Below w.heap.size w w') : HB lo m l1 l2 l3 bv cs w' :=
  h.keep fun q _ hq => hB.block q (by have := h.fv.lt; omega)
theorem HB.qt {lo m l1 l2 l3 bv : Nat} {cs : Array Value} {w w' : World} (h : HB lo m l1 l2 l3 bv cs w) (hq : Qt w w') : HB lo m l1 l2 l3 bv cs w' := h.call (hq.below _)
theorem HB.other {lo m l1 l2 l3 bv : Nat} {cs : Array Value} {w : World} (h : HB lo m l1 l2 l3 bv cs w) {a : Addr} (ha : a.block < m ∨ bv < a.block) (u : Value) : HB lo m l1 l2 l3 bv cs (w.setCell a u) :=
  h.keep fun q h1 h2 => Below.heap_setCell w a u q (by omega)
theorem HB.set {lo m l1 l2 l3 bv : Nat} {cs : Array Value} {w : World} (h : HB lo m l1 l2 l3 bv cs w) (j : Nat) (u : Value) : HB lo m l1 l2 l3 bv (cs.setIfInBounds j u) (w.setCell ⟨bv, j, none⟩ u) :=
  have o := h.fo
  ⟨h.fm.other (a := ⟨bv, j, none⟩) (show m ≠ bv by omega) u, h.f1.other (a := ⟨bv, j, none⟩) (show l1 ≠ bv by omega) u, h.f2.other (a := ⟨bv, j, none⟩) (show l2 ≠ bv by omega) u, h.f3.other (a := ⟨bv, j, none⟩) (show l3 ≠ bv by omega) u, h.fv.set j u, o⟩

set_option maxRecDepth 100000 in
set_option maxHeartbeats 1000000 in
theorem hills_b (w : World) : Calls Tryd.prog 4 #[] w fun e w' => ∃ m l1 l2 l3 bv, e = .returned (.agg #[.slice (some ⟨m, 0, none⟩) 3 3, .slice (some ⟨bv, 0, none⟩) 3 3]) ∧ HB w.heap.size m l1 l2 l3 bv (vcs 5 10 l1 l2 l3) w' ∧ Below w.heap.size w w' := by
  go_enter Tryd.func4, Tryd.ntmps4
  go_wp2
  refine bodyPost_ret (v := .agg #[.slice (some ⟨w.heap.size + 1, 0, none⟩) 3 3, .slice (some ⟨w.heap.size + 5, 0, none⟩) 3 3]) (by simp [results, Tryd.results4, go_sem]) rfl ⟨w.heap.size + 1, w.heap.size + 2, w.heap.size + 3, w.heap.size + 4, w.heap.size + 5, rfl, ⟨?_, ?_, ?_, ?_, ?_, by omega⟩, ?_⟩
  · exact (((((blk_at (w := (w.alloc (.cells #[.slice (some ⟨w.heap.size + 1, 0, none⟩) 3 3, .slice (some ⟨w.heap.size + 5, 0, none⟩) 3 3] 25))) (by simp) _ _).alloc _).alloc _).alloc _).alloc _)
  · exact ((((blk_at (w := ((w.alloc (.cells #[.slice (some ⟨w.heap.size + 1, 0, none⟩) 3 3, .slice (some ⟨w.heap.size + 5, 0, none⟩) 3 3] 25)).alloc (.cells #[.int .i64 30, .int .i64 20, .int .i64 12] 3))) (by simp) _ _).alloc _).alloc _).alloc _)
  · exact (((blk_at (w := (((w.alloc (.cells #[.slice (some ⟨w.heap.size + 1, 0, none⟩) 3 3, .slice (some ⟨w.heap.size + 5, 0, none⟩) 3 3] 25)).alloc (.cells #[.int .i64 30, .int .i64 20, .int .i64 12] 3)).alloc (.cells #[.int .i64 2, .int .i64 0, .int .i64 1] 3))) (by simp) _ _).alloc _).alloc _)
  · exact ((blk_at (w := ((((w.alloc (.cells #[.slice (some ⟨w.heap.size + 1, 0, none⟩) 3 3, .slice (some ⟨w.heap.size + 5, 0, none⟩) 3 3] 25)).alloc (.cells #[.int .i64 30, .int .i64 20, .int .i64 12] 3)).alloc (.cells #[.int .i64 2, .int .i64 0, .int .i64 1] 3)).alloc (.cells #[.int .i64 0, .int .i64 2, .int .i64 1] 3))) (by simp) _ _).alloc _)
  · exact blk_at (w := (((((w.alloc (.cells #[.slice (some ⟨w.heap.size + 1, 0, none⟩) 3 3, .slice (some ⟨w.heap.size + 5, 0, none⟩) 3 3] 25)).alloc (.cells #[.int .i64 30, .int .i64 20, .int .i64 12] 3)).alloc (.cells #[.int .i64 2, .int .i64 0, .int .i64 1] 3)).alloc (.cells #[.int .i64 0, .int .i64 2, .int .i64 1] 3)).alloc (.cells #[.int .i64 0, .int .i64 1, .int .i64 2] 3))) (by simp) _ _
  · exact (((((((Below.refl _ w).alloc (Nat.le_refl _) _).alloc (by simp) _).alloc (by simp; omega) _).alloc (by simp; omega) _).alloc (by simp; omega) _).alloc (by simp; omega) _)

/-- A block as a row of the call's own. -/
theorem own_of_blk {w : World} {b : Nat} {cs : Array Value} {t : TypeId} (h : Blk b cs t w) (sz n cap : Nat) (hs : cs.size = cap * sz) (hn : n ≤ cap) (hc : cap ≤ 100) : Own 0 w t sz (.slice (some ⟨b, 0, none⟩) n cap) n (cs.toList.take (n * sz)) := by
  refine ⟨?_, .inr ⟨b, cap, cs, rfl, Nat.zero_le _, h, hn, by unfold maxLen; omega, hs, rfl⟩⟩
  rw [List.length_take, Array.length_toList, hs]
  exact Nat.min_eq_left (Nat.mul_le_mul_right _ hn)
theorem ints_of_blk {w : World} {b : Nat} {l : List Int} (h : Blk b (I64 l).toArray 3 w) (hl : l.length ≤ 100) : Ints (fun _ => True) w (.slice (some ⟨b, 0, none⟩) l.length l.length) l := by
  have h1 := own_of_blk h 1 l.length l.length (by show (I64 l).length = _; unfold I64; rw [List.length_map, Nat.mul_one]) (Nat.le_refl _) hl
  have hlen : (I64 l).length = l.length := by unfold I64; rw [List.length_map]
  have e : (I64 l).toArray.toList.take (l.length * 1) = I64 l := by
    rw [Nat.mul_one, ← hlen]
    show (I64 l).take (I64 l).length = I64 l
    exact List.take_length
  rw [e] at h1
  exact (Own.ints h1).wide fun _ _ _ => trivial
theorem cm_of {w : World} {m bv : Nat} {c : Com} {cs : Array Value} {ls : List Value} (hm : Blk m (I64 c.mountains).toArray 3 w) (hml : c.mountains.length ≤ 100) (hv : Blk bv cs 28 w) (cap : Nat) (hcs : cs.size = cap * 3) (hn : c.villages.length ≤ cap) (hc : cap ≤ 100)
    (hls : ls.length = c.villages.length) (hcell : cs.toList.take (c.villages.length * 3) = vcells c.villages ls) (hi : ∀ i (a : i < ls.length) (b : i < c.villages.length), Ints (fun _ => True) w ls[i] c.villages[i].likes) :
    Cm (fun _ => True) w (.slice (some ⟨m, 0, none⟩) c.mountains.length c.mountains.length) (.slice (some ⟨bv, 0, none⟩) c.villages.length cap) c := by
  refine ⟨ints_of_blk hm hml, ls, hls, ?_, hi⟩
  have h1 := own_of_blk hv 3 c.villages.length cap hcs hn hc
  rw [hcell] at h1
  exact (Own.arr h1).wide fun _ _ _ => trivial

def greatC : Com := ⟨[30, 20, 12], [⟨8, 25, [2, 0, 1]⟩, ⟨31, 61, [0, 2, 1]⟩, ⟨3, 14, [0, 1, 2]⟩]⟩
def twiceC : Com := ⟨[30, 20, 12], [⟨8, 25, [2, 0, 1]⟩, ⟨5, 10, [0, 2, 1]⟩, ⟨3, 14, [0, 0, 1]⟩]⟩
def twoC : Com := ⟨[30, 20, 12], [⟨8, 25, [2, 0, 1]⟩, ⟨5, 10, [0, 2, 1]⟩]⟩
theorem HB.great {lo m l1 l2 l3 bv : Nat} {w : World} (h : HB lo m l1 l2 l3 bv (vcs 31 61 l1 l2 l3) w) : Cm (fun _ => True) w (.slice (some ⟨m, 0, none⟩) 3 3) (.slice (some ⟨bv, 0, none⟩) 3 3) greatC :=
  cm_of (c := greatC) (ls := [.slice (some ⟨l1, 0, none⟩) 3 3, .slice (some ⟨l2, 0, none⟩) 3 3, .slice (some ⟨l3, 0, none⟩) 3 3]) h.fm (by decide) h.fv 3 rfl (by decide) (by decide) rfl rfl fun i a b => by
    have hi : i = 0 ∨ i = 1 ∨ i = 2 := by simp at a; omega
    rcases hi with rfl | rfl | rfl
    · exact ints_of_blk (l := [2, 0, 1]) h.f1 (by decide)
    · exact ints_of_blk (l := [0, 2, 1]) h.f2 (by decide)
    · exact ints_of_blk (l := [0, 1, 2]) h.f3 (by decide)
theorem HB.twice {lo m l1 l2 l3 bv q : Nat} {w : World} (h : HB lo m l1 l2 l3 bv ((vcs 5 10 l1 l2 l3).setIfInBounds 8 (.slice (some ⟨q, 0, none⟩) 3 3)) w) (hq : Blk q #[.int .i64 0, .int .i64 0, .int .i64 1] 3 w) : Cm (fun _ => True) w (.slice (some ⟨m, 0, none⟩) 3 3) (.slice (some ⟨bv, 0, none⟩) 3 3) twiceC :=
  cm_of (c := twiceC) (ls := [.slice (some ⟨l1, 0, none⟩) 3 3, .slice (some ⟨l2, 0, none⟩) 3 3, .slice (some ⟨q, 0, none⟩) 3 3]) h.fm (by decide) h.fv 3 rfl (by decide) (by decide) rfl rfl fun i a b => by
    have hi : i = 0 ∨ i = 1 ∨ i = 2 := by simp at a; omega
    rcases hi with rfl | rfl | rfl
    · exact ints_of_blk (l := [2, 0, 1]) h.f1 (by decide)
    · exact ints_of_blk (l := [0, 2, 1]) h.f2 (by decide)
    · exact ints_of_blk (l := [0, 0, 1]) hq (by decide)
theorem HB.two {lo m l1 l2 l3 bv : Nat} {w : World} (h : HB lo m l1 l2 l3 bv (vcs 5 10 l1 l2 l3) w) : Cm (fun _ => True) w (.slice (some ⟨m, 0, none⟩) 3 3) (.slice (some ⟨bv, 0, none⟩) 2 3) twoC :=
  cm_of (c := twoC) (ls := [.slice (some ⟨l1, 0, none⟩) 3 3, .slice (some ⟨l2, 0, none⟩) 3 3]) h.fm (by decide) h.fv 3 rfl (by decide) (by decide) rfl rfl fun i a b => by
    have hi : i = 0 ∨ i = 1 := by simp at a; omega
    rcases hi with rfl | rfl
    · exact ints_of_blk (l := [2, 0, 1]) h.f1 (by decide)
    · exact ints_of_blk (l := [0, 2, 1]) h.f2 (by decide)

theorem kc1 : checkE hillsC = 0 := by decide +kernel
theorem kc2 : checkE greatC = 1 := by decide +kernel
theorem kc3 : checkE twiceC = 4 := by decide +kernel
theorem kc4 : checkE twoC = 7 := by decide +kernel
theorem kok : hillsC.Ok 4 := (checkE_zero _).1 kc1
theorem kAllot1 : placesErrE hillsC 8 = 0 ∧ allotR hillsC 8 = [4, 3, 1] := by decide +kernel
theorem kAllot2 : placesErrE hillsC 60 = 0 ∧ allotR hillsC 60 = [25, 10, 14] := by decide +kernel
theorem kNext1 : nxV (nextO hillsC.villages (allotN hillsC.villages 8) hillsC.villages.length) = 0 ∧ nxE (nextO hillsC.villages (allotN hillsC.villages 8) hillsC.villages.length) = 0 := by decide +kernel
theorem kNext2 : nxE (nextO hillsC.villages (allotN hillsC.villages 49) hillsC.villages.length) = 11 := by decide +kernel
theorem kLate : (allotN (hillsC.villages ++ [⟨4, 9, []⟩]) 10).getD hillsC.villages.length 0 = 2 ∧ lateL (allotN hillsC.villages 10) (allotN (hillsC.villages ++ [⟨4, 9, []⟩]) 10) hillsC.villages.length = [1, 0, 1] := by decide +kernel
theorem kDraw : divE hillsC [0, 1, 2] = 0 ∧ drawR hillsC [0, 1, 2] = [2, 0, 1] := by decide +kernel
theorem kYears : yrsE hillsC 4 = 0 ∧ yrsR hillsC 4 = [[2, 0, 1], [2, 0, 1], [2, 1, 0], [2, 0, 1]] := by decide +kernel
theorem kTrade : divE hillsC [1, 2, 0] = 0 ∧ tradeR hillsC [1, 2, 0] = [1, 2, 0] := by decide +kernel
theorem kSwaps : swapsR hillsC [0, 1, 2] = ([[0, 2]], [2, 1, 0]) := by decide +kernel
theorem kEnvy : envyR hillsC [0, 1, 2] = [1, 2, 2] := by decide +kernel
theorem kCalm : leastN (envySum hillsC.villages) hillsC = 1 ∧ leastB (envySum hillsC.villages) hillsC = [2, 0, 1] := by decide +kernel
theorem kGroup1 : groupE hillsC [0, 1, 2] = 0 ∧ groupR hillsC [0, 1, 2] = [0, 2] := by decide +kernel
theorem kGroup2 : groupE hillsC [1, 0, 2] = 0 ∧ groupR hillsC [1, 0, 2] = [0, 2] := by decide +kernel
theorem kGroup3 : groupE hillsC [2, 0, 1] = 11 := by decide +kernel
theorem kOver1 : overR hillsC [0, 1, 2] = [0, 0, 2] := by decide +kernel
theorem kOver2 : divE hillsC [2, 0, 1] = 0 ∧ overR hillsC [2, 0, 1] = [13, 0, 0] := by decide +kernel
theorem kRoom : leastN (overSum hillsC) hillsC = 0 ∧ leastB (overSum hillsC) hillsC = [0, 2, 1] := by decide +kernel

end Go.Proofs.YtmlikgjfpmjdcaaDoor
