/- FurrowsOf of mestakit (edge): valid furrows; conditions: as said. -/
import Derived.Test.YtbpfhoihfoojfaaGreatDoorEof
import Derived.Test.YtbpfhoihfoojfaaGreatDoorFq
namespace Go.Proofs.YtbpfhoihfoojfaaGreatDoor
open Go.RowKit

theorem Own.fus {B : Nat} {w : World} {v : Value} {l : List Fu} (h : Own B w 73 3 v l.length (l.flatMap fcells)) : FusM (fun k => B ≤ k) w v l := Own.arr h
theorem fus_snoc (l : List Fu) (c : Fu) : (l ++ [c]).flatMap fcells = l.flatMap fcells ++ fcells c := by simp
def metB (l : List Fu) (f : Fu) : Bool := l.any fun g => g.point == f.point && g.year == f.year
theorem metB_false {l : List Fu} {f : Fu} (h : metB l f = false) : ∀ g ∈ l, ¬ (g.point = f.point ∧ g.year = f.year) := by
  intro g hg ⟨h1, h2⟩
  unfold metB at h
  rw [List.any_eq_false] at h
  have := h g hg
  rw [h1, h2] at this
  simp at this
theorem metB_snoc (l : List Fu) (g f : Fu) : metB (l ++ [g]) f = (metB l f || (g.point == f.point && g.year == f.year)) := by
  unfold metB
  rw [List.any_append]
  simp

set_option maxRecDepth 100000 in
set_option maxHeartbeats 4000000 in
theorem furrowsOf_c {w : World} {hb k : Nat} (hH : Hnd w hb k) (hk : k < 800000) {P B : Int} (hP : 1 ≤ P ∧ P ≤ 4) (ax : Option Addr) (nx cx : Nat) :
    Calls Tryz.prog 8 #[.pointer (some ⟨hb, 0, none⟩), .agg #[.int .i64 P, .int .i64 B, .slice ax nx cx]] w fun e w' => (∃ (l : List Fu) (v : Value), e = .returned v ∧ furX P l = 0 ∧ Own w.heap.size w' 73 3 v l.length (l.flatMap fcells)) ∧ (∃ k', k' ≤ k + 100 ∧ Hnd w' hb k') ∧ w.grownBy w' (some hb) := by
  have hhb := hH.lt
  obtain ⟨w1, hw1⟩ : ∃ w1, w1 = w.alloc (.cells #[.int .i64 P, .int .i64 B, .slice ax nx cx] 24) := ⟨_, rfl⟩
  obtain ⟨b3, hb3⟩ : ∃ b, b = w.heap.size := ⟨_, rfl⟩
  have hX1 : Blk b3 #[.int .i64 P, .int .i64 B, .slice ax nx cx] 24 w1 := by rw [hw1, hb3]; exact Blk.new _ _ _
  have hB1 : Below w.heap.size w w1 := by rw [hw1]; exact (Below.refl _ w).alloc (Nat.le_refl _) _
  have hH1 := hH.call hB1
  obtain ⟨N, hN⟩ : ∃ N, N = w1.heap.size := ⟨_, rfl⟩
  have hbN : b3 < N := by rw [hN]; exact hX1.lt
  have hz1 : N ≤ w1.heap.size := Nat.le_of_eq hN
  have hwb : w.heap.size ≤ b3 := Nat.le_of_eq hb3.symm
  have bp : IntKind.i64.wrap (P - 1) = P - 1 := IntWalk.i64_in _ (by omega)
  go_enter Tryz.func8, Tryz.ntmps8
  go_upto_region 1 with fail
  rw [← hw1, ← hb3]
  clear hw1 hb3 hN hH
  go_wp2_with fail
  refine (upto_c hH1 (by omega) 6 (by omega) (by omega)).mono ?_
  rintro e w2 ⟨⟨u, rfl, hu, hub⟩, ⟨k2, hk2, hH2⟩, hG2⟩
  have hX2 := hX1.hand hG2 (by omega)
  have hGw2 := only_trans (only_below hB1) hG2
  have hz2 : N ≤ w2.heap.size := Nat.le_trans hz1 hG2.size
  obtain ⟨c0, rfl⟩ : ∃ c : Nat, u = (c : Int) := ⟨u.toNat, by omega⟩
  have hc6 : c0 ≤ 6 := by omega
  clear hX1 hB1 hG2 hH1 hu hub
  go_wp2_with fail
  go_loopw [5, 6] (fun vl vi wr => ∃ (j : Nat) (l : List Fu) (kr : Nat), j + l.length ≤ 6 ∧ vi = .int .i64 j ∧ kr + 3 * j ≤ k + 30 ∧ Hid (∀ f ∈ l, f.Ok P) ∧ Hid (OneEach l) ∧ Own N wr 73 3 vl l.length (l.flatMap fcells) ∧ Hnd wr hb kr ∧ Blk b3 #[.int .i64 P, .int .i64 B, .slice ax nx cx] 24 wr ∧ w.grownBy wr (some hb) ∧ N ≤ wr.heap.size) (fun _ vi _ => (intOf vi).toNat)
  case atStart => exact ⟨c0, [], k2, by simpa using hc6, rfl, by omega, Lib.hid (by simp), Lib.hid (by simp [OneEach]), Own.nil, hH2, hX2, hGw2, hz2⟩
  case round =>
    obtain ⟨j, l, k3, hjl, rfl, hk3, HOK, HONE, hO3, hH3, hX3, hGw3, hz3⟩ := hrel
    rename World => w3
    clear hX2 hH2 hGw2 hz2
    by_cases hj : 0 < j
    · obtain ⟨j1, rfl⟩ : ∃ j1, j = j1 + 1 := ⟨j - 1, by omega⟩
      have bj : IntKind.i64.wrap (((j1 + 1 : Nat) : Int) - 1) = (j1 : Int) := by rw [IntWalk.i64_in _ (by omega)]; omega
      have x0 := hX3.cell 0
      go_wp2_with fail
      refine (upto_c hH3 (by omega) (P - 1) (by omega) (by omega)).mono ?_
      rintro e w4 ⟨⟨fp, rfl, hfp, hfpb⟩, ⟨k4, hk4, hH4⟩, hG4⟩
      have hX4 := hX3.hand hG4 (by omega)
      have hO4 := hO3.only hG4 (by omega)
      have hGw4 := only_trans hGw3 hG4
      have hz4 : N ≤ w4.heap.size := Nat.le_trans hz3 hG4.size
      clear hG4 hX3 hO3 hGw3 hH3
      go_wp2_with fail
      refine (upto_c hH4 (by omega) 30 (by omega) (by omega)).mono ?_
      rintro e w5 ⟨⟨fy, rfl, hfy, hfyb⟩, ⟨k5, hk5, hH5⟩, hG5⟩
      have hX5 := hX4.hand hG5 (by omega)
      have hO5 := hO4.only hG5 (by omega)
      have hGw5 := only_trans hGw4 hG5
      have hz5 : N ≤ w5.heap.size := Nat.le_trans hz4 hG5.size
      clear hG5 hX4 hO4 hGw4 hH4
      go_wp2_with fail
      refine (upto_c hH5 (by omega) 9 (by omega) (by omega)).mono ?_
      rintro e w6 ⟨⟨fo, rfl, hfo, hfob⟩, ⟨k6, hk6, hH6⟩, hG6⟩
      have hX6 := hX5.hand hG6 (by omega)
      have hO6 := hO5.only hG6 (by omega)
      have hGw6 := only_trans hGw5 hG6
      have hz6 : N ≤ w6.heap.size := Nat.le_trans hz5 hG6.size
      clear hG6 hX5 hO5 hGw5 hH5
      clear x0
      obtain ⟨f, hf⟩ : ∃ f : Fu, f = ⟨fp, fy, fo⟩ := ⟨_, rfl⟩
      have hfok : f.Ok P := by rw [hf]; exact ⟨⟨hfp, by show fp ≤ P - 1; omega⟩, ⟨hfy, by show fy ≤ 30; omega⟩, ⟨hfo, by show fo ≤ 9; omega⟩⟩
      obtain rfl : fp = f.point := by rw [hf]
      obtain rfl : fy = f.year := by rw [hf]
      obtain rfl : fo = f.off := by rw [hf]
      obtain ⟨w7, hw7⟩ : ∃ w7, w7 = w6.alloc (.cells #[.int .i64 f.point, .int .i64 f.year, .int .i64 f.off] 73) := ⟨_, rfl⟩
      obtain ⟨b7, hb7⟩ : ∃ b, b = w6.heap.size := ⟨_, rfl⟩
      have hF7 : Blk b7 #[.int .i64 f.point, .int .i64 f.year, .int .i64 f.off] 73 w7 := by rw [hw7, hb7]; exact Blk.new _ _ _
      have hB7 : Below w6.heap.size w6 w7 := by rw [hw7]; exact (Below.refl _ w6).alloc (Nat.le_refl _) _
      have hX7 := hX6.call hB7
      have hO7 := hO6.call hB7
      have hH7 := hH6.call hB7
      have hGw7 := only_then hGw6 hB7
      have hz7 := Nat.le_trans hz6 hB7.size
      obtain ⟨av, cv, rfl⟩ := own_slice hO7
      go_upto_region 6 with fail
      rw [← hw7, ← hb7]
      clear hw7 hb7 hf hX6 hO6 hH6 hGw6 hz6 hB7
      go_wp2_with fail
      go_loopw [8, 9] (fun vb vm wr => ∃ (m : Nat) (b : Bool), m ≤ l.length ∧ vm = .int .i64 m ∧ vb = .bool b ∧ Hid (b = metB (l.take m) f) ∧ Qt w7 wr) (fun _ vm _ => l.length - (intOf vm).toNat)
      case atStart => exact ⟨0, false, Nat.zero_le _, rfl, rfl, Lib.hid rfl, Qt.refl _⟩
      case round =>
        rename World => wr
        obtain ⟨m, b, hm, rfl, rfl, HB, hQ⟩ := hrel
        have hFl := hO7.fus.qt hQ
        have hFr := hF7.qt hQ
        by_cases hlt : m < l.length
        · obtain ⟨gf, o, rfl, hA, hgf⟩ := fus_addr hFl (by omega)
          obtain ⟨d0, d1, d2⟩ := fus_at hFl m hlt
          have f0 := hFr.cell 0
          have f1 := hFr.cell 1
          have HSN := Lib.hid (show metB (l.take (m + 1)) f = (metB (l.take m) f || (l[m].point == f.point && l[m].year == f.year)) by rw [List.take_succ_eq_append_getElem hlt, metB_snoc])
          cases b with
          | true =>
            go_wp2_with fail
            go_quiet (fail)
            have hq8 : Qt wr (wr.drewN nq) := ⟨nq, rfl⟩
            go_wp2_with fail
            go_roundw
            case rel => exact ⟨m + 1, true, by omega, by go_num, rfl, Lib.hid (by rw [HSN.out, ← HB.out]; rfl), hQ.trans hq8⟩
            case measure => simp [intOf]; omega
          | false =>
            cases e1 : (l[m].point == f.point) with
            | false =>
              go_wp2_with fail
              go_quiet (fail)
              have hq8 : Qt wr (wr.drewN nq) := ⟨nq, rfl⟩
              go_wp2_with fail
              go_roundw
              case rel => exact ⟨m + 1, false, by omega, by go_num, rfl, Lib.hid (by rw [HSN.out, ← HB.out, e1]; rfl), hQ.trans hq8⟩
              case measure => simp [intOf]; omega
            | true =>
              cases e2 : (l[m].year == f.year) with
              | false =>
                go_wp2_with fail
                go_quiet (fail)
                have hq8 : Qt wr (wr.drewN nq) := ⟨nq, rfl⟩
                go_wp2_with fail
                go_roundw
                case rel => exact ⟨m + 1, false, by omega, by go_num, rfl, Lib.hid (by rw [HSN.out, ← HB.out, e1, e2]; rfl), hQ.trans hq8⟩
                case measure => simp [intOf]; omega
              | true =>
                go_wp2_with fail
                go_quiet (fail)
                have hq8 : Qt wr (wr.drewN nq) := ⟨nq, rfl⟩
                go_wp2_with fail
                go_roundw
                case rel => exact ⟨m + 1, true, by omega, by go_num, rfl, Lib.hid (by rw [HSN.out, ← HB.out, e1, e2]; rfl), hQ.trans hq8⟩
                case measure => simp [intOf]; omega
        · obtain rfl : m = l.length := by omega
          have HB2 := Lib.hid (show b = metB l f by rw [HB.out, List.take_length])
          have hOr := hO7.qt hQ
          have hHr := hH7.qt hQ
          have hXr := hX7.qt hQ
          have hGr := only_then hGw7 (hQ.below _)
          have hzr : N ≤ wr.heap.size := by rw [hQ.size]; exact hz7
          cases b with
          | true =>
            go_wp2_with fail
            go_roundw
            case rel => exact ⟨j1, l, k6, by omega, rfl, by omega, HOK, HONE, hOr, hHr, hXr, hGr, hzr⟩
            case measure => simp [intOf]
          | false =>
            have f0 := hFr.cell 0
            have f1 := hFr.cell 1
            have f2 := hFr.cell 2
            have ho8 := hOr.alloc (.cells #[.int .i64 f.point, .int .i64 f.year, .int .i64 f.off] 73)
            have ha := Own.arr (own_lit wr 73 3 #[.int .i64 f.point, .int .i64 f.year, .int .i64 f.off] 1 rfl (by omega))
            go_wp2_with (at_builtin; refine wpList_append_arr rfl _ _ 25 rfl 73 _ 3 24 Tryz.underlying25 Tryz.info73 rfl (by decide) (by decide) (by simp; omega) ho8 rfl ha rfl rfl (fcells_one f) (by omega) ?_; intro v9 w9 hown hT9)
            have hB9 := hT9.below2 (B' := N) ho8 ((Below.refl N wr).alloc hzr _) (by simp; omega) (Nat.le_refl _)
            have hX9 := hXr.below hB9 hbN
            have hH9 := hHr.below hB9 (by omega)
            have hG9 : w.grownBy w9 (some hb) := ⟨hB9.os.trans hGr.os, hB9.tape.trans hGr.tape, hB9.output.trans hGr.output, Nat.le_trans hGr.size hB9.size, fun i hi hn => (hB9.block i (by omega)).trans (hGr.block i hi hn)⟩
            have hz9 := Nat.le_trans hzr hB9.size
            go_roundw
            case rel =>
              refine ⟨j1, l ++ [f], k6, by simp; omega, rfl, by omega, Lib.hid (fun g hg => ?_), Lib.hid (one_snoc.2 ⟨HONE.out, metB_false HB2.out.symm⟩), ?_, hH9, hX9, hG9, hz9⟩
              · rcases List.mem_append.1 hg with h | h
                · exact HOK.out g h
                · rw [List.mem_singleton] at h; rw [h]; exact hfok
              · rw [List.length_append, List.length_singleton, fus_snoc]
                exact hown
            case measure => simp [intOf]
    · obtain rfl : j = 0 := by omega
      go_wp2_with fail
      go_ret
      exact ⟨⟨l, _, rfl, furX_zero.2 ⟨by omega, HOK.out, HONE.out⟩, own_from hO3 (by omega)⟩, ⟨k3, by omega, hH3⟩, hGw3⟩

end Go.Proofs.YtbpfhoihfoojfaaGreatDoor
