/- EdgeRead's walk: what is written is read again, what is read is what is written; conditions: the library's variables hold what they are laid with. -/
import Derived.Test.YtbpfhoihfoojfaaGreatDoorRdd
import Derived.Test.YtbpfhoihfoojfaaGreatDoorWrz
import Derived.Test.YtbpfhoihfoojfaaGreatDoorSae
import Derived.Test.YtbpfhoihfoojfaaGreatDoorSur
namespace Go.Proofs.YtbpfhoihfoojfaaGreatDoor
open Go.RowKit

theorem both_ok {x : Edg} (hx : x.Ok) {l : List Fu} (hf : furX x.points l = 0) : bothX x l = 0 := by
  unfold bothX
  rw [if_neg (not_not_intro (checkX_zero.2 hx))]
  exact hf
theorem wr_c {A A' : Nat → Prop} {w : World} {x : Edg} {vx v : Value} {l : List Fu} (hx : ClsM A w vx x.claims) (h : FusM A' w v l) (hG : GV w) (hb : bothX x l = 0) :
    Calls Tryz.prog 9 #[.agg #[.int .i64 x.points, .int .i64 x.bend, vx], v] w fun e w' => e = .returned (.tuple #[.string (str (edT numD x l)), .int .i64 0]) ∧ Below w.heap.size w w' := by
  have := write_c hx h hG
  rw [hb, if_pos rfl] at this
  exact this
theorem furs_c {A A' : Nat → Prop} {w : World} {v1 v2 : Value} {l : List Fu} (h1 : FusM A w v1 l) (h2 : FusM A' w v2 l) :
    Calls Tryz.prog 15 #[v1, v2] w fun e w' => e = .returned (.bool true) ∧ Below w.heap.size w w' := by
  refine (sameFurrows_q h1 h2).mono ?_
  rintro e w' ⟨⟨b, rfl, hb⟩, hq⟩
  exact ⟨by rw [hb.2 rfl], hq.below _⟩

set_option maxRecDepth 100000 in
set_option maxHeartbeats 4000000 in
theorem edgeRead_c {A : Nat → Prop} {w : World} {v : Value} {nums : List Int} (hn : Ints A w v nums) (t : List UInt8) (htl : t.length ≤ 9000000000000000000) (hG : GV w) :
    Calls Tryz.prog 4 #[v, .string (str t)] w fun e w' => e = .returned (.bool true) ∧ Below w.heap.size w w' := by
  have hz := str_size t
  by_cases hl : 300 < t.length
  · have hd : decide ((300 : Int) < t.length) = true := decide_eq_true (by omega)
    go_enter Tryz.func4, Tryz.ntmps4
    go_wp2_with fail
    refine (surveyed_c _).mono ?_
    rintro e w1 ⟨rfl, hB1⟩
    go_wp2_with fail
    go_ret
    exact ⟨rfl, hB1⟩
  · have hd : decide ((300 : Int) < t.length) = false := decide_eq_false (by omega)
    go_enter Tryz.func4, Tryz.ntmps4
    go_wp2_with fail
    refine (newHand_c hn).mono ?_
    rintro e w1 ⟨rfl, hH1, hB1⟩
    have hsz1 := hH1.lt
    go_wp2_with fail
    refine (edgeOf_c hH1 (by omega) (pts := 4) (cl := 7) (by omega) (by omega)).mono ?_
    rintro e w2 ⟨⟨x, vx, rfl, hx, hx4, hx7, hO2⟩, ⟨k2, hk2, hH2⟩, hG2⟩
    have hB2 := bhand hB1 hG2 (Nat.le_refl _)
    obtain ⟨ax, cx, rfl⟩ := own_slice hO2
    obtain ⟨w3, hw3⟩ : ∃ w3, w3 = w2.alloc (.cells #[.int .i64 x.points, .int .i64 x.bend, .slice ax x.claims.length cx] 24) := ⟨_, rfl⟩
    obtain ⟨bx, hbx⟩ : ∃ b, b = w2.heap.size := ⟨_, rfl⟩
    have hX3 : Blk bx #[.int .i64 x.points, .int .i64 x.bend, .slice ax x.claims.length cx] 24 w3 := by rw [hw3, hbx]; exact Blk.new _ _ _
    have hB3 : Below w.heap.size w w3 := by rw [hw3]; exact bal2 hB2
    have hC3 : ClsM (fun q => w1.heap.size ≤ q) w3 (.slice ax x.claims.length cx) x.claims := by rw [hw3]; exact (hO2.cls).call ((Below.refl _ _).alloc (Nat.le_refl _) _)
    have hH3 : Hnd w3 w.heap.size k2 := by rw [hw3]; exact hH2.call ((Below.refl _ _).alloc (Nat.le_refl _) _)
    have hbw : w.heap.size < bx := by rw [hbx]; have := hG2.size; omega
    go_upto_region 5 with fail
    rw [← hw3, ← hbx]
    clear hw3 hbx hO2 hG2 hH1 hB1 hB2 hH2
    have c0 := hX3.cell 0
    have c1 := hX3.cell 1
    have c2 := hX3.cell 2
    go_wp2_with fail
    refine (furrowsOf_c hH3 (by omega) hx.p ax x.claims.length cx).mono ?_
    rintro e w4 ⟨⟨L, vf, rfl, hfx, hF4⟩, ⟨k4, hk4, hH4⟩, hG4⟩
    have hX4 := hX3.hand hG4 (by omega)
    have hC4 := Elems.only hC3 hG4 (by omega)
    have hB4 := bhand hB3 hG4 (Nat.le_refl _)
    obtain ⟨af, cf, rfl⟩ := own_slice hF4
    have hF4 : FusM (fun q => w3.heap.size ≤ q) w4 (.slice af L.length cf) L := hF4.fus
    clear c0 c1 c2 hX3 hC3 hB3 hG4 hH3
    have hok := both_ok hx hfx
    have HOK := Lib.hid hok
    clear hok hfx
    have hGv4 := hG.call hB4
    have c0 := hX4.cell 0
    have c1 := hX4.cell 1
    have c2 := hX4.cell 2
    go_wp2_with fail
    clear c0 c1 c2
    refine (wr_c hC4 hF4 hGv4 HOK.out).mono ?_
    rintro e w5 ⟨rfl, hB5⟩
    have hX5 := hX4.call hB5
    have hC5 := hC4.call hB5
    have hF5 := hF4.call hB5
    have hBw5 := bnw hB4 hB5
    have hGv5 := hG.call hBw5
    have hrd := read_c (edT numD x L) (by have := edT_len HOK.out; omega) w5 hGv5
    rw [read_written HOK.out] at hrd
    have HRD := Lib.hid hrd
    clear hrd hX4 hC4 hF4 hB4 hB5 hGv4
    go_wp2_with fail
    refine HRD.out.mono ?_
    rintro e w6 ⟨vy, vk, rfl, hC6, hF6, hB6⟩
    have hC6 : ClsM (fun q => w5.heap.size ≤ q) w6 vy x.claims := hC6
    have hF6 : FusM (fun q => w5.heap.size ≤ q) w6 vk L := hF6
    obtain ⟨ay, cy, rfl, _, _⟩ := hC6.shape
    obtain ⟨ak, ck, rfl, _, _⟩ := hF6.shape
    obtain ⟨w7, hw7⟩ : ∃ w7, w7 = w6.alloc (.cells #[.int .i64 x.points, .int .i64 x.bend, .slice ay x.claims.length cy] 24) := ⟨_, rfl⟩
    obtain ⟨b7, hb7⟩ : ∃ b, b = w6.heap.size := ⟨_, rfl⟩
    have hY7 : Blk b7 #[.int .i64 x.points, .int .i64 x.bend, .slice ay x.claims.length cy] 24 w7 := by rw [hw7, hb7]; exact Blk.new _ _ _
    have hA7 : Below w6.heap.size w6 w7 := by rw [hw7]; exact (Below.refl _ w6).alloc (Nat.le_refl _) _
    have hA57 := bnw hB6 hA7
    have hX7 := hX5.call hA57
    have hC7 := hC5.call hA57
    have hF7 := hF5.call hA57
    have hD7 := hC6.call hA7
    have hE7 := hF6.call hA7
    have hBw7 := bnw hBw5 hA57
    go_upto_region 8 with fail
    rw [← hw7, ← hb7]
    clear hw7 hb7 hA7 hA57 hX5 hC5 hF5 hC6 hF6 hB6 hBw5 hGv5 HRD
    have c0 := hX7.cell 0
    have c1 := hX7.cell 1
    have c2 := hX7.cell 2
    have d0 := hY7.cell 0
    have d1 := hY7.cell 1
    have d2 := hY7.cell 2
    go_wp2_with fail
    clear c0 c1 c2 d0 d1 d2
    refine (sameEdges_c hC7 hD7).mono ?_
    rintro e w8 ⟨rfl, hB8⟩
    have hF8 := hF7.call hB8
    have hE8 := hE7.call hB8
    have hBw8 := bnw hBw7 hB8
    go_wp2_with fail
    refine (furs_c hF8 hE8).mono ?_
    rintro e w9 ⟨rfl, hB9⟩
    have hBw9 := bnw hBw8 hB9
    have hGv9 := hG.call hBw9
    have HR2 := Lib.hid (read_c t htl w9 hGv9)
    clear hX7 hY7 hC7 hD7 hF7 hE7 hF8 hE8 hB8 hB9 hBw7 hBw8
    obtain ⟨r, hr⟩ : ∃ r, r = readR t := ⟨_, rfl⟩
    have HR3 := Lib.hid (show Calls Tryz.prog 12 #[.string (str t)] w9 (RdPost r w9) by rw [hr]; exact HR2.out)
    have HRE := Lib.hid hr
    clear hr HR2
    go_wp2_with fail
    refine HR3.out.mono ?_
    rintro e w10 ⟨vz, vm, rfl, hC10, hF10, hB10⟩
    obtain ⟨az, cz, rfl, _, _⟩ := hC10.shape
    obtain ⟨am, cm, rfl, _, _⟩ := hF10.shape
    obtain ⟨w11, hw11⟩ : ∃ w, w = w10.alloc (.cells #[.int .i64 r.x.points, .int .i64 r.x.bend, .slice az r.x.claims.length cz] 24) := ⟨_, rfl⟩
    obtain ⟨b14, hb14⟩ : ∃ b, b = w10.heap.size := ⟨_, rfl⟩
    have hZ11 : Blk b14 #[.int .i64 r.x.points, .int .i64 r.x.bend, .slice az r.x.claims.length cz] 24 w11 := by rw [hw11, hb14]; exact Blk.new _ _ _
    have hA11 : Below w10.heap.size w10 w11 := by rw [hw11]; exact (Below.refl _ w10).alloc (Nat.le_refl _) _
    have hC11 := hC10.call hA11
    have hF11 := hF10.call hA11
    have hBw11 := bnw hBw9 (bnw hB10 hA11)
    go_upto_region 11 with fail
    rw [← hw11, ← hb14]
    clear hw11 hb14 hA11 hC10 hF10 hB10
    by_cases he : r.e = 0
    · have bt : (r.e != 0) = false := by rw [he]; rfl
      obtain ⟨hck, htt⟩ := written_read (t := t) (by rw [← HRE.out]; exact he)
      rw [← HRE.out] at hck htt
      have HCK := Lib.hid hck
      have HTT := Lib.hid htt
      clear hck htt he
      have hGv11 := hG.call hBw11
      have c0 := hZ11.cell 0
      have c1 := hZ11.cell 1
      have c2 := hZ11.cell 2
      go_wp2_with fail
      clear c0 c1 c2
      refine (wr_c hC11 hF11 hGv11 HCK.out).mono ?_
      rintro e w12 ⟨rfl, hB12⟩
      rw [← HTT.out]
      have hBw12 := bnw hBw11 hB12
      have htl2 : (str t).toList = t := ByteArray.toList_mk t
      have htt2 : (t == t) = true := by simp
      go_wp2_with fail
      refine (surveyed_c _).mono ?_
      rintro e w13 ⟨rfl, hB13⟩
      go_wp2_with fail
      go_ret
      exact ⟨rfl, bnw hBw12 hB13⟩
    · have bt : (r.e != 0) = true := by simpa using he
      clear he
      go_wp2_with fail
      refine (surveyed_c _).mono ?_
      rintro e w12 ⟨rfl, hB12⟩
      go_wp2_with fail
      go_ret
      exact ⟨rfl, bnw hBw11 hB12⟩

end Go.Proofs.YtbpfhoihfoojfaaGreatDoor
