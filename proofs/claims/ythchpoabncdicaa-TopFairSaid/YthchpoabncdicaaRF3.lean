/- All envy and all heads too many of a division (mestaref08.sums); conditions: valid commons of at most four mountains, a division. -/
import Derived.Test.YthchpoabncdicaaRF2
namespace Go.Proofs.Ythchpoabncdicaa
open Go.RowKit

def rkS (vs : List Vil) (d : List Int) : Nat → Int
  | 0 => 0
  | k + 1 => rkS vs d k + rk vs k (d.getD k 0)
def ovS (c : Com) (d : List Int) : Nat → Int
  | 0 => 0
  | k + 1 => ovS c d k + overV c k (d.getD k 0)
def SuS (b : Nat) (vm vv : Value) (b1 o1 : Nat) (x : Nat) (w : World) : Prop := Blk b #[vm, vv] 25 w ∧ w.cell? ⟨b1, o1, none⟩ = some (.int .i64 x)
theorem SuS.drew {b : Nat} {vm vv : Value} {b1 o1 : Nat} {x : Nat} {w : World} (h : SuS b vm vv b1 o1 x w) : SuS b vm vv b1 o1 x w.drew := h

set_option maxRecDepth 100000 in
set_option maxHeartbeats 2000000 in
theorem rsums_c {A A' : Nat → Prop} {w : World} {vm vv vd : Value} {c : Com} {d : List Int} (h : Cm A w vm vv c) (hok : c.Ok 4) (hd : Ints A' w vd d) (hp : PermOf c.villages.length d) :
    Calls Try.prog 124 #[.agg #[vm, vv], vd] w fun e w' => e = .returned (.tuple #[.int .i64 (rkS c.villages d c.villages.length), .int .i64 (ovS c d c.villages.length)]) ∧ Below w.heap.size w w' := by
  obtain ⟨am, cpm, rfl, _, _⟩ := h.1.shape
  obtain ⟨av, cpv, rfl, _, _⟩ := h.2.shape
  have hvl4 : c.villages.length ≤ 4 := by have := hok.vl; have := hok.n2; omega
  have hvl1 : 0 < c.villages.length := by have := hok.vl; have := hok.n1; omega
  have hdl := hp.len
  have hsd := hd.shape
  rw [hdl] at hsd
  obtain ⟨ad, cd, rfl, _, _⟩ := hsd
  have hB0 : Below w.heap.size w (w.alloc (.cells #[.slice am c.mountains.length cpm, .slice av c.villages.length cpv] 25)) := (Below.refl _ w).alloc (Nat.le_refl _) _
  have hx : Blk w.heap.size #[.slice am c.mountains.length cpm, .slice av c.villages.length cpv] 25 (w.alloc (.cells #[.slice am c.mountains.length cpm, .slice av c.villages.length cpv] 25)) := Blk.new w _ _
  have h0 := h.call hB0
  have hd0 := hd.call hB0
  obtain ⟨bd, od, rfl, -, hbd, hdc⟩ := hd0.addr (by omega)
  have hvm : c.villages.length ≤ c.mountains.length := by have := hok.vl; omega
  have HVL := Lib.hid hok.vl
  have HP := Lib.hid hp
  have HDL := Lib.hid hdl
  have HDC := Lib.hid hdc
  clear hdl hp hdc
  go_enter Try.func124, Try.ntmps124
  go_wp2_with fail
  generalize w.alloc (.cells #[.slice am c.mountains.length cpm, .slice av c.villages.length cpv] 25) = w0 at *
  go_loopw [6, 7, 8] (fun s6 s7 s8 wr => ∃ k : Nat, k ≤ c.villages.length ∧ s8 = .int .i64 k ∧ s6 = .int .i64 (rkS c.villages d k) ∧ s7 = .int .i64 (ovS c d k) ∧ 0 ≤ rkS c.villages d k ∧ rkS c.villages d k ≤ 4 * k ∧ 0 ≤ ovS c d k ∧ ovS c d k ≤ 60 * k ∧ Below w0.heap.size w0 wr) (fun _ _ s8 _ => c.villages.length - (intOf s8).toNat)
  case atStart => exact ⟨0, Nat.zero_le _, rfl, rfl, rfl, by simp [rkS], by simp [rkS], by simp [ovS], by simp [ovS], Below.refl _ _⟩
  case round =>
    obtain ⟨i, hi, rfl, rfl, rfl, hr0, hr1, ho0, ho1, hB⟩ := hrel
    by_cases hlt : i < c.villages.length
    · have kd : i < d.length := by have := HDL.out; omega
      have q1 := HDC.out i kd
      have hb := (HP.out.mem _).1 (List.getElem_mem kd)
      have hge : d.getD i 0 = d[i] := by simp [kd]
      have hs1 : rkS c.villages d (i + 1) = rkS c.villages d i + rk c.villages i d[i] := by rw [rkS, hge]
      have hs2 : ovS c d (i + 1) = ovS c d i + overV c i d[i] := by rw [ovS, hge]
      obtain ⟨x, hxe⟩ : ∃ x : Nat, d[i] = (x : Int) := ⟨d[i].toNat, by omega⟩
      rw [hxe] at q1 hs1 hs2 hb
      have hxm : x < c.mountains.length := by omega
      have hvo := hok.vil _ (List.getElem_mem hlt)
      have hmem : (x : Int) ∈ c.villages[i].likes := (hvo.2.2.2.2.mem _).2 ⟨by omega, by omega⟩
      have hrb : 0 ≤ rk c.villages i x ∧ rk c.villages i x ≤ 4 := by
        have := placeOf_bd hmem
        have hl := hvo.2.2.2.2.len
        have := hok.n2
        rw [rk_at hlt]; omega
      have hob : 0 ≤ overV c i x ∧ overV c i x ≤ 60 := by
        have := hok.bears _ (List.getElem_mem hxm)
        have e : c.mountains.getD x 0 = c.mountains[x] := by simp [hxm]
        rw [overV, her_at hlt, Int.toNat_natCast, e]; omega
      obtain ⟨r0, hr⟩ : ∃ z, z = rkS c.villages d i := ⟨_, rfl⟩
      obtain ⟨o0, ho⟩ : ∃ z, z = ovS c d i := ⟨_, rfl⟩
      rw [← hr] at hs1 hr0 hr1 ⊢
      rw [← ho] at hs2 ho0 ho1 ⊢
      have HS1 := Lib.hid hs1
      have HS2 := Lib.hid hs2
      have hE : ∀ w', Below w0.heap.size w0 w' → (SuS w.heap.size (.slice am c.mountains.length cpm) (.slice av c.villages.length cpv) bd (od + i) x) w' := fun w' h => ⟨hx.call h, (World.cell?_of_block (h.block bd hbd)).trans q1⟩
      have hrb1 := hrb.1
      have hrb2 := hrb.2
      have hob1 := hob.1
      have hob2 := hob.2
      clear hs1 hs2 hr ho hge hxe hb hvo hrb hob q1
      go_wp2_with fail
      refine wp_region_mix2 (.pur 0 (.one 1 (.pur 2 (.pur 3 (.pur 4 (.pur 5 (.one 6 (.pur 9 (.one 10 (.pur 11 (.pur 12 (.pur 13 (.pur 14 (.one 15 (.act 7 (.pur 8 (.act 16 (.pur 17 (.pur 18 (.pur 19 .fin)))))))))))))))))))) 99 (SuS w.heap.size (.slice am c.mountains.length cpm) (.slice av c.villages.length cpv) bd (od + i) x) (fun _ => True) (by kernel_rfl) (by kernel_rfl) rfl (by kernel_rfl) (hE _ hB).drew (fun wd hqd _ => ?_)
      have hBd : Below w0.heap.size w0 wd := hB.trans (hqd.below _)
      refine mix_pur2 rfl (fun K hK => ?_)
      go_simp
      first | refine ⟨_, fun _ => rfl, hK _ ?_⟩ | refine hK _ ?_
      clear hK K
      refine mix_load2 rfl rfl rfl (.agg #[.slice am c.mountains.length cpm, .slice av c.villages.length cpv]) (fun w' h => by have h : (SuS w.heap.size (.slice am c.mountains.length cpm) (.slice av c.villages.length cpv) bd (od + i) x) w' := h; have h0 := h.1.cell 0; have h1 := h.1.cell 1; go_simp) rfl ?_
      refine mix_pur2 rfl (fun K hK => ?_)
      go_simp
      first | refine ⟨_, fun _ => rfl, hK _ ?_⟩ | refine hK _ ?_
      clear hK K
      refine mix_pur2 rfl (fun K hK => ?_)
      go_simp
      first | refine ⟨_, fun _ => rfl, hK _ ?_⟩ | refine hK _ ?_
      clear hK K
      refine mix_pur2 rfl (fun K hK => ?_)
      go_simp
      first | refine ⟨_, fun _ => rfl, hK _ ?_⟩ | refine hK _ ?_
      clear hK K
      refine mix_pur2 rfl (fun K hK => ?_)
      go_simp
      first | refine ⟨_, fun _ => rfl, hK _ ?_⟩ | refine hK _ ?_
      clear hK K
      refine mix_load2 rfl rfl rfl (.int .i64 (x : Nat)) (fun w' h => by have h : (SuS w.heap.size (.slice am c.mountains.length cpm) (.slice av c.villages.length cpv) bd (od + i) x) w' := h; have h0 := h.2; go_simp) rfl ?_
      refine mix_pur2 rfl (fun K hK => ?_)
      go_simp
      first | refine ⟨_, fun _ => rfl, hK _ ?_⟩ | refine hK _ ?_
      clear hK K
      refine mix_load2 rfl rfl rfl (.agg #[.slice am c.mountains.length cpm, .slice av c.villages.length cpv]) (fun w' h => by have h : (SuS w.heap.size (.slice am c.mountains.length cpm) (.slice av c.villages.length cpv) bd (od + i) x) w' := h; have h0 := h.1.cell 0; have h1 := h.1.cell 1; go_simp) rfl ?_
      refine mix_pur2 rfl (fun K hK => ?_)
      go_simp
      first | refine ⟨_, fun _ => rfl, hK _ ?_⟩ | refine hK _ ?_
      clear hK K
      refine mix_pur2 rfl (fun K hK => ?_)
      go_simp
      first | refine ⟨_, fun _ => rfl, hK _ ?_⟩ | refine hK _ ?_
      clear hK K
      refine mix_pur2 rfl (fun K hK => ?_)
      go_simp
      first | refine ⟨_, fun _ => rfl, hK _ ?_⟩ | refine hK _ ?_
      clear hK K
      refine mix_pur2 rfl (fun K hK => ?_)
      go_simp
      first | refine ⟨_, fun _ => rfl, hK _ ?_⟩ | refine hK _ ?_
      clear hK K
      refine mix_load2 rfl rfl rfl (.int .i64 (x : Nat)) (fun w' h => by have h : (SuS w.heap.size (.slice am c.mountains.length cpm) (.slice av c.villages.length cpv) bd (od + i) x) w' := h; have h0 := h.2; go_simp) rfl ?_
      refine mix_eff2 rfl false rfl (fun K hK => ?_)
      go_simp
      refine (rrank_c (h0.call hBd) i hlt (x : Int) hmem).mono ?_
      rintro e w8 ⟨rfl, hC8⟩
      have hB8 := hBd.trans (hC8.mono hBd.size)
      refine hK _ _ (hE w8 hB8) ?_
      clear hK K
      refine mix_pur2 rfl (fun K hK => ?_)
      go_simp
      first | refine ⟨_, fun _ => rfl, hK _ ?_⟩ | refine hK _ ?_
      clear hK K
      refine mix_eff2 rfl false rfl (fun K hK => ?_)
      go_simp
      refine (rover_c (h0.call hB8) hok i x hlt hxm).mono ?_
      rintro e w9 ⟨rfl, hC9⟩
      have hB9 := hB8.trans (hC9.mono hB8.size)
      refine hK _ _ (hE w9 hB9) ?_
      clear hK K
      refine mix_pur2 rfl (fun K hK => ?_)
      go_simp
      first | refine ⟨_, fun _ => rfl, hK _ ?_⟩ | refine hK _ ?_
      clear hK K
      refine mix_pur2 rfl (fun K hK => ?_)
      go_simp
      first | refine ⟨_, fun _ => rfl, hK _ ?_⟩ | refine hK _ ?_
      clear hK K
      refine mix_pur2 rfl (fun K hK => ?_)
      go_simp
      first | refine ⟨_, fun _ => rfl, hK _ ?_⟩ | refine hK _ ?_
      clear hK K
      refine mix_done2 ?_
      go_wp2_with fail
      go_roundw
      case rel => exact ⟨i + 1, by omega, by go_num, by rw [HS1.out, IntWalk.i64_in _ (by omega)], by rw [HS2.out, IntWalk.i64_in _ (by omega)], by rw [HS1.out]; omega, by rw [HS1.out]; omega, by rw [HS2.out]; omega, by rw [HS2.out]; omega, hB9⟩
      case measure => simp [intOf]; omega
    · obtain rfl : i = c.villages.length := by omega
      go_wp2
      go_ret2
      exact ⟨rfl, bnx hB0 hB⟩

end Go.Proofs.Ythchpoabncdicaa
