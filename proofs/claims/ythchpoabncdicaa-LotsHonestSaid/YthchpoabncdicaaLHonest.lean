/- The walk of LotsHonest: it hands back true, whatever the numbers; conditions: the argument reads as numbers. -/
import Derived.Test.YthchpoabncdicaaHonP
import Derived.Test.YthchpoabncdicaaCopyO
import Derived.Test.YthchpoabncdicaaLPareto
namespace Go.Proofs.Ythchpoabncdicaa
open Go.RowKit

def HoW (b : Nat) (vm vv : Value) (gb o : Nat) (row : Value) (w : World) : Prop := Blk b #[vm, vv] 25 w ∧ w.cell? ⟨gb, o, none⟩ = some row
theorem HoW.drew {b : Nat} {vm vv : Value} {gb o : Nat} {row : Value} {w : World} (h : HoW b vm vv gb o row w) : HoW b vm vv gb o row w.drew := h
/-- What the last comparison reads. -/
def HoS (b : Nat) (vm vv : Value) (b1 o1 b2 o2 b3 o3 b4 o4 : Nat) (x1 x2 x3 x4 : Int) (w : World) : Prop := Blk b #[vm, vv] 25 w ∧ w.cell? ⟨b1, o1, none⟩ = some (.int .i64 x1) ∧ w.cell? ⟨b2, o2, none⟩ = some (.int .i64 x2) ∧ w.cell? ⟨b3, o3, none⟩ = some (.int .i64 x3) ∧ w.cell? ⟨b4, o4, none⟩ = some (.int .i64 x4)
theorem HoS.drew {b : Nat} {vm vv : Value} {b1 o1 b2 o2 b3 o3 b4 o4 : Nat} {x1 x2 x3 x4 : Int} {w : World} (h : HoS b vm vv b1 o1 b2 o2 b3 o3 b4 o4 x1 x2 x3 x4 w) : HoS b vm vv b1 o1 b2 o2 b3 o3 b4 o4 x1 x2 x3 x4 w.drew := h

/-- A copy in which one village tells another liking. -/
theorem Copied.lie {A : Nat → Prop} {B g cap : Nat} {w : World} {vm : Value} {c : Com} {ls : List Value} (h : Copied B w vm (.slice (some ⟨g, 0, none⟩) c.villages.length cap) c ls) {who : Nat} (hw : who < c.villages.length) {u : Value} {L : List Int} (hu : Ints A w u L) (hA : ∀ b, A b → b ≠ g) :
    Cm (fun _ => True) (w.setCell ⟨g, who * 3 + 2, none⟩ u) vm (.slice (some ⟨g, 0, none⟩) c.villages.length cap) ⟨c.mountains, lieV c.villages who L⟩ := by
  have hoth : ∀ i, i ≠ g → (w.setCell ⟨g, who * 3 + 2, none⟩ u).heap[i]? = w.heap[i]? := fun i hi => Below.heap_setCell _ _ _ _ (show i ≠ g from hi)
  have hszz : (w.setCell ⟨g, who * 3 + 2, none⟩ u).heap.size = w.heap.size := by simp [World.setCell]
  have hgen : ∀ (D : Nat → Prop) (v : Value) (l : List Int), Ints D w v l → (∀ b, D b → b ≠ g) → Ints (fun _ => True) (w.setCell ⟨g, who * 3 + 2, none⟩ u) v l :=
    fun D v l hi hd => (hi.step (by omega) fun b hb _ => hoth b (hd b hb)).wide fun _ _ _ => trivial
  have hne : ∀ b : Nat, (B ≤ b ∧ (Value.slice (some ⟨g, 0, none⟩) c.villages.length cap).ownBlock ≠ some b) → b ≠ g := fun b hb e => hb.2 (by rw [e]; rfl)
  refine ⟨hgen _ _ _ h.im hne, ls.set who u, by simp [lieV, h.ll], ?_, fun i a b => ?_⟩
  · have h1 := (World.ownsRow.stored h.ov (who * 3 + 2) u).1
    rw [vcells_set c.villages ls h.ll who hw u, vcells_likes c.villages (ls.set who u) who hw L] at h1
    have e : c.villages.set who { c.villages[who] with likes := L } = lieV c.villages who L := by simp [lieV, hw]
    rw [e] at h1
    show Arr _ _ _ (lieV c.villages who L).length _
    rw [lieV_len]
    exact (Own.arr h1).wide fun _ _ _ => trivial
  · have b' : i < c.villages.length := by
      have b2 : i < (lieV c.villages who L).length := b
      rwa [lieV_len] at b2
    show Ints _ _ _ ((lieV c.villages who L)[i]'b).likes
    by_cases e : who = i
    · subst e
      simp only [List.getElem_set_self, lieV]
      exact hgen _ _ _ hu hA
    · simp only [List.getElem_set_ne e, lieV]
      exact hgen _ _ _ (h.lk i (by rw [h.ll]; exact b') b') hne
theorem Grid.only {A : Nat → Prop} {w w' : World} {hb : Nat} {v : Value} {l : List (List Int)} (h : Grid A w v l) (ho : w.grownBy w' (some hb)) (hA : ¬ A hb) : Grid A w' v l :=
  h.step ho.size fun i hi hl => ho.block i hl (fun e => hA (by injection e with e; exact e ▸ hi))
theorem lie_ok {c : Com} (hok : c.Ok 4) {who : Nat} (hw : who < c.villages.length) {L : List Int} (hL : PermOf c.villages.length L) : (Com.mk c.mountains (lieV c.villages who L)).Ok 4 := by
  refine ⟨hok.n1, hok.n2, by show (lieV _ _ _).length = _; rw [lieV_len]; exact hok.vl, hok.bears, fun v hv => ?_⟩
  have hv : v ∈ lieV c.villages who L := hv
  rcases List.mem_or_eq_of_mem_set hv with hv | hv
  · exact hok.vil v hv
  · subst hv
    have h := hok.vil _ (List.getElem_mem hw)
    have e : c.villages.getD who ⟨0, 0, []⟩ = c.villages[who] := by simp [hw]
    rw [e]
    exact ⟨h.1, h.2.1, h.2.2.1, h.2.2.2.1, by show PermOf c.mountains.length L; rw [← hok.vl]; exact hL⟩

set_option maxRecDepth 100000 in
set_option maxHeartbeats 4000000 in
theorem lotsHonest_c {A : Nat → Prop} {w : World} {v : Value} {nums : List Int} (hn : Ints A w v nums) :
    Calls Try.prog 9 #[v] w fun e w' => e = .returned (.bool true) ∧ Below w.heap.size w w' := by
  go_enter Try.func9, Try.ntmps9
  go_wp2_with fail
  refine (newHand_c hn).mono ?_
  rintro e w1 ⟨rfl, hH, hB1⟩
  have hs1 := hH.lt
  go_wp2_with fail
  refine (commonsOf_c hH (by omega) 4 (by omega) (by omega)).mono ?_
  rintro e w2 ⟨vm, vv, rfl, ⟨c, hC, hok⟩, ⟨k2, hk2, hH⟩, hG⟩
  have hB2 : Below w.heap.size w w2 := hB1.grown hG (by omega) (fun k e => by injection e with e; omega)
  have hs2 := hG.size
  clear hG hB1
  obtain ⟨am, cpm, rfl, _, _⟩ := hC.1.shape
  obtain ⟨av, cpv, rfl, _, _⟩ := hC.2.shape
  have hH := hH.call ((Below.refl w2.heap.size w2).alloc (Nat.le_refl _) (.cells #[.slice am c.mountains.length cpm, .slice av c.villages.length cpv] 25))
  have hbx : Blk w2.heap.size #[.slice am c.mountains.length cpm, .slice av c.villages.length cpv] 25 (w2.alloc (.cells #[.slice am c.mountains.length cpm, .slice av c.villages.length cpv] 25)) := Blk.new w2 _ _
  have hC := hC.alloc (.cells #[.slice am c.mountains.length cpm, .slice av c.villages.length cpv] 25)
  have hT := bal (o := .cells #[.slice am c.mountains.length cpm, .slice av c.villages.length cpv] 25) hB2
  have hvl4 : c.villages.length ≤ 4 := by have := hok.vl; have := hok.n2; omega
  have hvl1 : 0 < c.villages.length := by have := hok.vl; have := hok.n1; omega
  have c1 := hbx.cell 1
  go_wp2_with fail
  clear c1
  refine (row_c hH c.villages.length (by omega) (by omega)).mono ?_
  rintro e w3 ⟨⟨vo, rfl, ord, ho3, hpo⟩, ⟨k3, hk3, hH3⟩, hG3⟩
  have hC3 := hC.hand hG3 hs1
  have hbx3 := hbx.hand hG3 (by omega)
  have hT3 := bhand hT hG3 (by omega)
  have hs3 : w2.heap.size + 1 ≤ w3.heap.size := by have := hG3.size; simp at this; omega
  clear hC hbx hT hH hG3
  go_wp2_with fail
  refine (row_c hH3 c.villages.length (by omega) (by omega)).mono ?_
  rintro e w4 ⟨⟨vf, rfl, fst, hf4, hpf⟩, ⟨k4, hk4, hH4⟩, hG4⟩
  have hC4 := hC3.hand hG4 hs1
  have hbx4 := hbx3.hand hG4 (by omega)
  have hT4 := bhand hT3 hG4 (by omega)
  have ho4 := ho3.only hG4 (by simp; omega)
  have hs4 := hG4.size
  clear hC3 hbx3 hT3 hH3 hG4 ho3
  have hol := hpo.len
  have hfl := hpf.len
  have hvl := hok.vl
  have hpo' : PermOf c.mountains.length ord := by rw [← hvl]; exact hpo
  have hpf' : PermOf c.mountains.length fst := by rw [← hvl]; exact hpf
  have hlk : ∀ v ∈ c.villages, PermOf c.villages.length v.likes := fun v hv => by rw [hvl]; exact (hok.vil v hv).2.2.2.2
  have hdr := draw_good hC4 ho4 (divE_zero hok hpo')
  rw [hol] at hdr
  have HDR := Lib.hid hdr
  have HPO := Lib.hid hpo
  have HPF := Lib.hid hpf
  have HPO' := Lib.hid hpo'
  have HPF' := Lib.hid hpf'
  have HLK := Lib.hid hlk
  have HOL := Lib.hid hol
  have HFL := Lib.hid hfl
  have HVL := Lib.hid hvl
  clear hdr hpo hpf hpo' hpf' hlk hol hfl hvl
  have c0 := hbx4.cell 0
  have c1 := hbx4.cell 1
  go_wp2_with fail
  clear c0 c1
  refine HDR.out.mono ?_
  rintro e w5 ⟨va, rfl, ha5, hB5⟩
  have hH5 := hH4.call hB5
  have hC5 := hC4.call hB5
  have hbx5 := hbx4.call hB5
  have hT5 := bnx hT4 hB5
  have ho5 := ho4.call hB5
  have hf5 := hf4.call hB5
  have hs5 := hB5.size
  clear hC4 hbx4 hT4 ho4 hf4 hB5 hH4 HDR
  have htr := tradeF_c hC5 hf5 (divE_zero hok HPF'.out)
  have HTR := Lib.hid htr
  clear htr
  have c0 := hbx5.cell 0
  have c1 := hbx5.cell 1
  go_wp2_with fail
  clear c0 c1
  refine HTR.out.mono ?_
  rintro e w6 ⟨vb, rfl, hb6, hB6⟩
  have hH6 := hH5.call hB6
  have hC6 := hC5.call hB6
  have hbx6 := hbx5.call hB6
  have hT6 := bnx hT5 hB6
  have ho6 := ho5.call hB6
  have hf6 := hf5.call hB6
  have ha6 := ha5.call hB6
  have hs6 := hB6.size
  clear hC5 hbx5 hT5 ho5 hf5 ha5 hB6 hH5 HTR
  have hpa : PermOf c.villages.length (drawF c.villages c.villages.length ord) := drawF_perm (fun v hv => by
    rw [List.getD_eq_getElem?_getD, List.getElem?_eq_getElem hv]; exact HLK.out _ (List.getElem_mem hv)) HPO.out
  have hpb : PermOf c.villages.length (tradeF c.villages fst) := by
    have := trade_perm (vs := c.villages) (order := fst) (by have := HFL.out; omega) (by rw [HFL.out]) (by rw [HFL.out]; exact HPF.out) (by rw [HFL.out]; exact HLK.out)
    rwa [HFL.out] at this
  obtain ⟨aL, haL⟩ : ∃ aL, aL = drawF c.villages c.villages.length ord := ⟨_, rfl⟩
  obtain ⟨bL, hbL⟩ : ∃ bL, bL = tradeF c.villages fst := ⟨_, rfl⟩
  rw [← haL] at ha6 hpa
  rw [← hbL] at hb6 hpb
  have HAL := Lib.hid haL
  have HBL := Lib.hid hbL
  have hal := hpa.len
  have hbl := hpb.len
  have HPA := Lib.hid hpa
  have HPB := Lib.hid hpb
  have hsa := ha6.shape
  rw [hal] at hsa
  obtain ⟨aa, ca, rfl, _, _⟩ := hsa
  have hsb := hb6.shape
  rw [hbl] at hsb
  obtain ⟨ab, cb, rfl, _, _⟩ := hsb
  obtain ⟨ba, oa, rfl, -, -, -⟩ := ha6.addr (by omega)
  obtain ⟨bb, ob, rfl, -, -, -⟩ := hb6.addr (by omega)
  have HAN := Lib.hid hal
  have HBN := Lib.hid hbl
  clear haL hbL hpa hpb hal hbl
  go_wp2_with fail
  refine (whole_t ha6 HPA.out).mono ?_
  rintro e w7 ⟨rfl, hq7⟩
  go_wp2_with fail
  refine (whole_t (hb6.qt hq7) HPB.out).mono ?_
  rintro e w8 ⟨rfl, hq8⟩
  have hq8 := hq7.trans hq8
  have hB8 := hq8.below w6.heap.size
  have hH8 := hH6.call hB8
  have hC8 := hC6.call hB8
  have hbx8 := hbx6.call hB8
  have hT8 := bnx hT6 hB8
  have ho8 := ho6.call hB8
  have hf8 := hf6.call hB8
  have ha8 := ha6.call hB8
  have hb8 := hb6.call hB8
  have hs8 := hB8.size
  clear hC6 hbx6 hT6 ho6 hf6 ha6 hb6 hB8 hH6 hq7 hq8
  go_wp2_with fail
  refine (orders_c hvl4 w8).mono ?_
  rintro e w9 ⟨vo9, rfl, hO, hB9⟩
  have hH9 := hH8.call hB9
  have hC9 := hC8.call hB9
  have hbx9 := hbx8.call hB9
  have hT9 := bnx hT8 hB9
  have ho9 := ho8.call hB9
  have hf9 := hf8.call hB9
  have ha9 := ha8.call hB9
  have hb9 := hb8.call hB9
  have hs9 := hB9.size
  clear hC8 hbx8 hT8 ho8 hf8 ha8 hb8 hB9 hH8
  have hop := orders_perm hvl4
  generalize ordersL c.villages.length = all at hO hop
  obtain ⟨ao, co, rfl, _, _⟩ := hO.shape
  have hoL := hO.len
  have HOP := Lib.hid hop
  clear hop
  go_wp2_with fail
  refine (upto_c hH9 (by omega) ((c.villages.length : Int) - 1) (by omega) (by omega)).mono ?_
  rintro e w10 ⟨⟨who0, rfl, hw0, hw1⟩, -, hG10⟩
  obtain ⟨who, rfl⟩ : ∃ who : Nat, who0 = (who : Int) := ⟨who0.toNat, by omega⟩
  have hww : who < c.villages.length := by omega
  clear hw0 hw1
  have hC := hC9.hand hG10 hs1
  have hbx := hbx9.hand hG10 (by omega)
  have hT := bhand hT9 hG10 (by omega)
  have ho := ho9.only hG10 (by simp; omega)
  have hf := hf9.only hG10 (by simp; omega)
  have ha := ha9.only hG10 (by simp; omega)
  have hb := hb9.only hG10 (by simp; omega)
  have hO := hO.only hG10 (by simp; omega)
  have hs10 := hG10.size
  clear hC9 hbx9 hT9 ho9 hf9 ha9 hb9 hG10 hH9 hk2 hk3 hk4
  go_wp2_with fail
  go_loopw [14] (fun i wr => ∃ k : Nat, k ≤ all.length ∧ i = .int .i64 k ∧ Below w10.heap.size w10 wr) (fun i _ => all.length - (intOf i).toNat)
  case atStart => exact ⟨0, Nat.zero_le _, rfl, Below.refl _ _⟩
  case round =>
    obtain ⟨i, hi, rfl, hB⟩ := hrel
    have hsr := hB.size
    by_cases hil : i < all.length
    · obtain ⟨gb, go, rfl, -, hgb⟩ := hO.addr (by omega)
      obtain ⟨ar, cr, r1, hR⟩ := hO.row i hil
      have hpd := HOP.out _ (List.getElem_mem hil)
      have hdl := hpd.len
      obtain ⟨d, hd⟩ : ∃ d, d = all[i] := ⟨_, rfl⟩
      rw [← hd] at r1 hR hpd hdl
      rw [hdl] at r1 hR
      have HPD := Lib.hid hpd
      have HDL := Lib.hid hdl
      clear hd hpd hdl
      have c0 := (hbx.call hB).cell 0
      have c1 := (hbx.call hB).cell 1
      go_wp2_with fail
      clear c0 c1
      refine (copyCommons_own (hC.call hB) (hok.sm (by omega))).mono ?_
      rintro e w11 ⟨vmx, vvx, lsx, rfl, hX, hB11⟩
      have hBX := hB.trans (hB11.mono hsr)
      have hs11 := hB11.size
      obtain ⟨g, cx, rfl, hg1, hg2⟩ := hX.head hvl1
      obtain ⟨amx, cmx, rfl, _, _⟩ := hX.im.shape
      have hbX : Blk w11.heap.size #[(.slice amx c.mountains.length cmx), (.slice (some ⟨g, 0, none⟩) c.villages.length cx)] 25 (w11.alloc (.cells #[(.slice amx c.mountains.length cmx), (.slice (some ⟨g, 0, none⟩) c.villages.length cx)] 25)) := Blk.new w11 _ _
      have hX12 := hX.alloc (.cells #[(.slice amx c.mountains.length cmx), (.slice (some ⟨g, 0, none⟩) c.villages.length cx)] 25)
      have hB12 : Below w10.heap.size w10 (w11.alloc (.cells #[(.slice amx c.mountains.length cmx), (.slice (some ⟨g, 0, none⟩) c.villages.length cx)] 25)) := hBX.alloc (by omega) _
      have hS12 : (HoW w11.heap.size (.slice amx c.mountains.length cmx) (.slice (some ⟨g, 0, none⟩) c.villages.length cx) gb (go + i) (.slice ar c.villages.length cr)) (w11.alloc (.cells #[(.slice amx c.mountains.length cmx), (.slice (some ⟨g, 0, none⟩) c.villages.length cx)] 25)) := ⟨hbX, (World.cell?_of_block (hB12.block gb hgb)).trans r1⟩
      have hsz12 : (w11.alloc (.cells #[(.slice amx c.mountains.length cmx), (.slice (some ⟨g, 0, none⟩) c.villages.length cx)] 25)).heap.size = w11.heap.size + 1 := by simp
      go_wp2_with fail
      generalize w11.alloc (.cells #[(.slice amx c.mountains.length cmx), (.slice (some ⟨g, 0, none⟩) c.villages.length cx)] 25) = w12 at *
      refine wp_region_mix2 (.pur 0 (.one 1 (.pur 2 (.pur 3 (.pur 4 (.pur 5 (.one 6 (.pur 7 (.pur 8 (.act 9 .fin)))))))))) 99 (HoW w11.heap.size (.slice amx c.mountains.length cmx) (.slice (some ⟨g, 0, none⟩) c.villages.length cx) gb (go + i) (.slice ar c.villages.length cr)) (fun _ => True) (by kernel_rfl) (by kernel_rfl) rfl (by kernel_rfl) (HoW.drew hS12) (fun wd hqd _ => ?_)
      have hX12 := hX12.call (hqd.below _)
      have hd12 := hX12.cells who (by omega)
      have hf12 := hX12.free (who * 3 + 2)
      have hS13 : HoW w11.heap.size (.slice amx c.mountains.length cmx) (.slice (some ⟨g, 0, none⟩) c.villages.length cx) gb (go + i) (.slice ar c.villages.length cr) (wd.setCell ⟨g, who * 3 + 2, none⟩ (.slice ar c.villages.length cr)) := ⟨(hbX.call (hqd.below _)).other (by show w11.heap.size ≠ g; omega) _, (World.cell?_of_block ((hB12.trans (hqd.below _)).setCell (show w10.heap.size ≤ g by omega) _ |>.block gb hgb)).trans r1⟩
      refine mix_pur2 rfl (fun K hK => ?_)
      go_simp
      first | refine ⟨_, fun _ => rfl, hK _ ?_⟩ | refine hK _ ?_
      clear hK K
      refine mix_load2 rfl rfl rfl (.slice (some ⟨g, 0, none⟩) c.villages.length cx) (fun w' h => by have h : (HoW w11.heap.size (.slice amx c.mountains.length cmx) (.slice (some ⟨g, 0, none⟩) c.villages.length cx) gb (go + i) (.slice ar c.villages.length cr)) w' := h; have h0 := h.1.cell 1; go_simp) rfl ?_
      refine mix_pur2 rfl (fun K hK => ?_)
      go_simp
      first | refine ⟨_, fun _ => rfl, hK _ ?_⟩ | refine hK _ ?_
      clear hK K
      refine mix_pur2 rfl (fun K hK => ?_)
      go_simp
      first | refine ⟨_, fun _ => rfl, hK _ ?_⟩ | refine hK _ ?_
      clear hK K
      refine mix_pur2 rfl (fun K hK => ?_)
      go_simp
      first | refine ⟨_, fun _ => rfl, hK _ ?_⟩ | refine hK _ ?_
      clear hK K
      refine mix_pur2 rfl (fun K hK => ?_)
      go_simp
      first | refine ⟨_, fun _ => rfl, hK _ ?_⟩ | refine hK _ ?_
      clear hK K
      refine mix_loadg2 rfl rfl (.slice ar c.villages.length cr) (by go_simp) (fun w' h => by have h : (HoW w11.heap.size (.slice amx c.mountains.length cmx) (.slice (some ⟨g, 0, none⟩) c.villages.length cx) gb (go + i) (.slice ar c.villages.length cr)) w' := h; have h0 := h.2; go_simp) rfl ?_
      refine mix_pur2 rfl (fun K hK => ?_)
      go_simp
      first | refine ⟨_, fun _ => rfl, hK _ ?_⟩ | refine hK _ ?_
      clear hK K
      refine mix_pur2 rfl (fun K hK => ?_)
      go_simp
      first | refine ⟨_, fun _ => rfl, hK _ ?_⟩ | refine hK _ ?_
      clear hK K
      refine mix_eff2 rfl false rfl (fun K hK => ?_)
      have d1 := hd12.2.2
      have f1 := hf12
      go_simp
      refine hK _ _ (hS13) ?_
      clear hK K d1 f1
      refine mix_done2 ?_
      have hBd : Below w10.heap.size w10 wd := hB12.trans (hqd.below _)
      have hRd : Ints (fun b => b < w10.heap.size) wd (.slice ar c.villages.length cr) d := (hR.wide (fun k _ hk => hk)).call hBd
      have hCx := hX12.lie hww hRd (fun b hb => by omega)
      have hB13 : Below w10.heap.size w10 (wd.setCell ⟨g, who * 3 + 2, none⟩ (.slice ar c.villages.length cr)) := hBd.setCell (show w10.heap.size ≤ g by omega) _
      have hbx13 := hS13.1
      generalize wd.setCell ⟨g, who * 3 + 2, none⟩ (.slice ar c.villages.length cr) = w13 at *
      clear hX12 hd12 hf12 hS13 hRd hBd hqd hS12 hbX hX hsz12
      have hok13 := lie_ok hok hww HPD.out
      have hdr := draw_good hCx (ho.call hB13) (divE_zero hok13 HPO'.out)
      rw [HOL.out] at hdr
      have HDR := Lib.hid hdr
      clear hdr
      have c0 := hbx13.cell 0
      have c1 := hbx13.cell 1
      go_wp2_with fail
      clear c0 c1
      refine HDR.out.mono ?_
      rintro e w14 ⟨vp, rfl, hp14, hB14⟩
      have hCx14 := hCx.call hB14
      have hB14' := hB13.trans (hB14.mono hB13.size)
      have htr := tradeF_c hCx14 (hf.call hB14') (divE_zero hok13 HPF'.out)
      have HTR := Lib.hid htr
      have hbx14 := hbx13.call hB14
      clear htr HDR hCx hbx13
      have c0 := hbx14.cell 0
      have c1 := hbx14.cell 1
      go_wp2_with fail
      clear c0 c1
      refine HTR.out.mono ?_
      rintro e wz ⟨vq, rfl, hqz, hBz⟩
      have hpz := hp14.call hBz
      have hBZ := hB14'.trans (hBz.mono hB14'.size)
      clear hp14 hB14 hB14' hCx14 HTR hbx14 hBz
      have hlks := lieV_likes (who := who) HLK.out HPD.out
      have hpp : PermOf c.villages.length (drawF (lieV c.villages who d) c.villages.length ord) := drawF_perm (fun v hv => by
        rw [List.getD_eq_getElem?_getD, List.getElem?_eq_getElem (by rw [lieV_len]; exact hv)]; exact hlks _ (List.getElem_mem _)) HPO.out
      have hpq : PermOf c.villages.length (tradeF (lieV c.villages who d) fst) := by
        have := trade_perm (vs := lieV c.villages who d) (order := fst) (by have := HFL.out; omega) (by rw [lieV_len, HFL.out]) (by rw [HFL.out]; exact HPF.out) (by rw [HFL.out]; exact hlks)
        rwa [HFL.out] at this
      have hh1 := draw_honest (vs := c.villages) rfl HLK.out HPD.out HPO.out hww
      have hh2 := trade_honest (vs := c.villages) (first := fst) (L := d) (who := who) (by have := HFL.out; omega) (by rw [HFL.out]) (by rw [HFL.out]; exact HLK.out) (by rw [HFL.out]; exact HPD.out) (by rw [HFL.out]; exact HPF.out) (by rw [HFL.out]; exact hww)
      rw [← HAL.out] at hh1
      rw [← HBL.out] at hh2
      (try dsimp only at hpz hqz)
      generalize drawF (lieV c.villages who d) c.villages.length ord = pL at hpz hpp hh1
      generalize tradeF (lieV c.villages who d) fst = qL at hqz hpq hh2
      have hpl := hpp.len
      have hql := hpq.len
      have hsp := hpz.shape
      rw [hpl] at hsp
      obtain ⟨ap, cp, rfl, _, _⟩ := hsp
      have hsq := hqz.shape
      rw [hql] at hsq
      obtain ⟨aq, cq, rfl, _, _⟩ := hsq
      obtain ⟨bp, op, rfl, -, hbp, -⟩ := hpz.addr (by omega)
      obtain ⟨bq, oq, rfl, -, hbq, -⟩ := hqz.addr (by omega)
      have haz := ha.call hBZ
      have hbz := hb.call hBZ
      have hkp : who < pL.length := by omega
      have hkq : who < qL.length := by omega
      have hka : who < aL.length := by have := HAN.out; omega
      have hkb : who < bL.length := by have := HBN.out; omega
      have g1 : pL.getD who 0 = pL[who] := by simp [hkp]
      have g2 : qL.getD who 0 = qL[who] := by simp [hkq]
      have g3 : aL.getD who 0 = aL[who] := by simp [hka]
      have g4 : bL.getD who 0 = bL[who] := by simp [hkb]
      rw [g1, g3] at hh1
      rw [g2, g4] at hh2
      obtain ⟨px, hpx⟩ : ∃ x, x = pL[who] := ⟨_, rfl⟩
      obtain ⟨qx, hqx⟩ : ∃ x, x = qL[who] := ⟨_, rfl⟩
      obtain ⟨ax, hax⟩ : ∃ x, x = aL[who] := ⟨_, rfl⟩
      obtain ⟨bx, hbx'⟩ : ∃ x, x = bL[who] := ⟨_, rfl⟩
      have hCz := hC.call hBZ
      have hbxz := hbx.call hBZ
      have hE : ∀ w', Below wz.heap.size wz w' → HoS w2.heap.size (.slice am c.mountains.length cpm) (.slice av c.villages.length cpv) bp (op + who) ba (oa + who) bq (oq + who) bb (ob + who) px ax qx bx w' := fun w' h =>
        ⟨hbxz.call h, by rw [hpx]; exact (hpz.call h).cell who hkp, by rw [hax]; exact (haz.call h).cell who hka, by rw [hqx]; exact (hqz.call h).cell who hkq, by rw [hbx']; exact (hbz.call h).cell who hkb⟩
      rw [← hpx, ← hax] at hh1
      rw [← hqx, ← hbx'] at hh2
      have b1 : decide (rk c.villages who px < rk c.villages who ax) = false := decide_eq_false (by omega)
      have b2 : decide (rk c.villages who qx < rk c.villages who bx) = false := decide_eq_false (by omega)
      have b3 : ¬ rk c.villages who px < rk c.villages who ax := by omega
      have b4 : ¬ rk c.villages who qx < rk c.villages who bx := by omega
      have HPP := Lib.hid hpp
      have HPQ := Lib.hid hpq
      clear hpx hqx hax hbx' g1 g2 g3 g4 hpl hql hh1 hh2 hpp hpq haz hbz hlks hkp hkq hka hkb r1
      go_wp2_with fail
      refine wp_region_mix2 (.pur 0 (.pur 1 (.pur 2 (.pur 3 (.pur 4 (.pur 5 (.pur 6 (.pur 7 (.pur 8 (.act 9 (.pur 10 (.pur 11 (.pur 12 (.pur 13 (.pur 14 (.act 15 (.pur 16 (.pur 17 (.pur 18 (.one 19 (.pur 20 (.pur 21 (.pur 22 (.pur 23 (.one 24 (.one 26 (.pur 27 (.pur 28 (.pur 29 (.pur 30 (.one 31 (.act 25 (.act 32 (.pur 33 (.pur 34 (.pur 35 (.one 36 (.pur 37 (.pur 38 (.pur 39 (.pur 40 (.one 41 (.one 43 (.pur 44 (.pur 45 (.pur 46 (.pur 47 (.one 48 (.act 42 (.act 49 (.pur 50 (.pur 51 .fin)))))))))))))))))))))))))))))))))))))))))))))))))))) 99 (HoS w2.heap.size (.slice am c.mountains.length cpm) (.slice av c.villages.length cpv) bp (op + who) ba (oa + who) bq (oq + who) bb (ob + who) px ax qx bx) (fun _ => True) (by kernel_rfl) (by kernel_rfl) rfl (by kernel_rfl) (hE _ (Below.refl _ _)).drew (fun wd hqd _ => ?_)
      refine mix_pur2 rfl (fun K hK => ?_)
      go_simp
      first | refine ⟨_, fun _ => rfl, hK _ ?_⟩ | refine hK _ ?_
      clear hK K
      refine mix_pur2 rfl (fun K hK => ?_)
      go_simp
      first | refine ⟨_, fun _ => rfl, hK _ ?_⟩ | refine hK _ ?_
      clear hK K
      refine mix_pur2 rfl (fun K hK => ?_)
      go_simp
      first | refine ⟨_, fun _ => rfl, hK _ ?_⟩ | refine hK _ ?_
      clear hK K
      refine mix_pur2 rfl (fun K hK => ?_)
      go_simp
      first | refine ⟨_, fun _ => rfl, hK _ ?_⟩ | refine hK _ ?_
      clear hK K
      refine mix_pur2 rfl (fun K hK => ?_)
      go_simp
      first | refine ⟨_, fun _ => rfl, hK _ ?_⟩ | refine hK _ ?_
      clear hK K
      refine mix_pur2 rfl (fun K hK => ?_)
      go_simp
      first | refine ⟨_, fun _ => rfl, hK _ ?_⟩ | refine hK _ ?_
      clear hK K
      refine mix_pur2 rfl (fun K hK => ?_)
      go_simp
      first | refine ⟨_, fun _ => rfl, hK _ ?_⟩ | refine hK _ ?_
      clear hK K
      refine mix_pur2 rfl (fun K hK => ?_)
      go_simp
      first | refine ⟨_, fun _ => rfl, hK _ ?_⟩ | refine hK _ ?_
      clear hK K
      refine mix_pur2 rfl (fun K hK => ?_)
      go_simp
      first | refine ⟨_, fun _ => rfl, hK _ ?_⟩ | refine hK _ ?_
      clear hK K
      refine mix_eff2 rfl false rfl (fun K hK => ?_)
      go_simp
      refine (whole_t (hpz.qt hqd) HPP.out).mono ?_
      rintro e y1 ⟨rfl, hqy1⟩
      have hq1 := hqd.trans hqy1
      refine hK _ _ (hE _ (hq1.below _)) ?_
      clear hK K
      refine mix_pur2 rfl (fun K hK => ?_)
      go_simp
      first | refine ⟨_, fun _ => rfl, hK _ ?_⟩ | refine hK _ ?_
      clear hK K
      refine mix_pur2 rfl (fun K hK => ?_)
      go_simp
      first | refine ⟨_, fun _ => rfl, hK _ ?_⟩ | refine hK _ ?_
      clear hK K
      refine mix_pur2 rfl (fun K hK => ?_)
      go_simp
      first | refine ⟨_, fun _ => rfl, hK _ ?_⟩ | refine hK _ ?_
      clear hK K
      refine mix_pur2 rfl (fun K hK => ?_)
      go_simp
      first | refine ⟨_, fun _ => rfl, hK _ ?_⟩ | refine hK _ ?_
      clear hK K
      refine mix_pur2 rfl (fun K hK => ?_)
      go_simp
      first | refine ⟨_, fun _ => rfl, hK _ ?_⟩ | refine hK _ ?_
      clear hK K
      refine mix_eff2 rfl false rfl (fun K hK => ?_)
      go_simp
      refine (whole_t (hqz.qt hq1) HPQ.out).mono ?_
      rintro e y2 ⟨rfl, hqy2⟩
      have hB2 := (hq1.trans hqy2).below wz.heap.size
      refine hK _ _ (hE _ hB2) ?_
      clear hK K
      refine mix_pur2 rfl (fun K hK => ?_)
      go_simp
      first | refine ⟨_, fun _ => rfl, hK _ ?_⟩ | refine hK _ ?_
      clear hK K
      refine mix_pur2 rfl (fun K hK => ?_)
      go_simp
      first | refine ⟨_, fun _ => rfl, hK _ ?_⟩ | refine hK _ ?_
      clear hK K
      refine mix_pur2 rfl (fun K hK => ?_)
      go_simp
      first | refine ⟨_, fun _ => rfl, hK _ ?_⟩ | refine hK _ ?_
      clear hK K
      refine mix_loadg2 rfl rfl (.agg #[.slice am c.mountains.length cpm, .slice av c.villages.length cpv]) (by go_simp) (fun w' h => by have h : (HoS w2.heap.size (.slice am c.mountains.length cpm) (.slice av c.villages.length cpv) bp (op + who) ba (oa + who) bq (oq + who) bb (ob + who) px ax qx bx) w' := h; have h0 := h.1.cell 0; have h1 := h.1.cell 1; go_simp) rfl ?_
      refine mix_pur2 rfl (fun K hK => ?_)
      go_simp
      first | refine ⟨_, fun _ => rfl, hK _ ?_⟩ | refine hK _ ?_
      clear hK K
      refine mix_pur2 rfl (fun K hK => ?_)
      go_simp
      first | refine ⟨_, fun _ => rfl, hK _ ?_⟩ | refine hK _ ?_
      clear hK K
      refine mix_pur2 rfl (fun K hK => ?_)
      go_simp
      first | refine ⟨_, fun _ => rfl, hK _ ?_⟩ | refine hK _ ?_
      clear hK K
      refine mix_pur2 rfl (fun K hK => ?_)
      go_simp
      first | refine ⟨_, fun _ => rfl, hK _ ?_⟩ | refine hK _ ?_
      clear hK K
      refine mix_loadg2 rfl rfl (.int .i64 px) (by go_simp) (fun w' h => by have h : (HoS w2.heap.size (.slice am c.mountains.length cpm) (.slice av c.villages.length cpv) bp (op + who) ba (oa + who) bq (oq + who) bb (ob + who) px ax qx bx) w' := h; have h0 := h.2.1; go_simp) rfl ?_
      refine mix_loadg2 rfl rfl (.agg #[.slice am c.mountains.length cpm, .slice av c.villages.length cpv]) (by go_simp) (fun w' h => by have h : (HoS w2.heap.size (.slice am c.mountains.length cpm) (.slice av c.villages.length cpv) bp (op + who) ba (oa + who) bq (oq + who) bb (ob + who) px ax qx bx) w' := h; have h0 := h.1.cell 0; have h1 := h.1.cell 1; go_simp) rfl ?_
      refine mix_pur2 rfl (fun K hK => ?_)
      go_simp
      first | refine ⟨_, fun _ => rfl, hK _ ?_⟩ | refine hK _ ?_
      clear hK K
      refine mix_pur2 rfl (fun K hK => ?_)
      go_simp
      first | refine ⟨_, fun _ => rfl, hK _ ?_⟩ | refine hK _ ?_
      clear hK K
      refine mix_pur2 rfl (fun K hK => ?_)
      go_simp
      first | refine ⟨_, fun _ => rfl, hK _ ?_⟩ | refine hK _ ?_
      clear hK K
      refine mix_pur2 rfl (fun K hK => ?_)
      go_simp
      first | refine ⟨_, fun _ => rfl, hK _ ?_⟩ | refine hK _ ?_
      clear hK K
      refine mix_loadg2 rfl rfl (.int .i64 ax) (by go_simp) (fun w' h => by have h : (HoS w2.heap.size (.slice am c.mountains.length cpm) (.slice av c.villages.length cpv) bp (op + who) ba (oa + who) bq (oq + who) bb (ob + who) px ax qx bx) w' := h; have h0 := h.2.2.1; go_simp) rfl ?_
      refine mix_eff2 rfl false rfl (fun K hK => ?_)
      go_simp
      refine (plc_c (hCz.call hB2) who (by omega) px).mono ?_
      rintro e y3 ⟨rfl, hCy3⟩
      have hB3 := hB2.trans (hCy3.mono hB2.size)
      refine hK _ _ (hE _ hB3) ?_
      clear hK K
      refine mix_eff2 rfl false rfl (fun K hK => ?_)
      go_simp
      refine (plc_c (hCz.call hB3) who (by omega) ax).mono ?_
      rintro e y4 ⟨rfl, hCy4⟩
      have hB4 := hB3.trans (hCy4.mono hB3.size)
      refine hK _ _ (hE _ hB4) ?_
      clear hK K
      refine mix_pur2 rfl (fun K hK => ?_)
      go_simp
      first | refine ⟨_, fun _ => rfl, hK _ ?_⟩ | refine hK _ ?_
      clear hK K
      refine mix_pur2 rfl (fun K hK => ?_)
      go_simp
      first | refine ⟨_, fun _ => rfl, hK _ ?_⟩ | refine hK _ ?_
      clear hK K
      refine mix_pur2 rfl (fun K hK => ?_)
      go_simp
      first | refine ⟨_, fun _ => rfl, hK _ ?_⟩ | refine hK _ ?_
      clear hK K
      refine mix_loadg2 rfl rfl (.agg #[.slice am c.mountains.length cpm, .slice av c.villages.length cpv]) (by go_simp) (fun w' h => by have h : (HoS w2.heap.size (.slice am c.mountains.length cpm) (.slice av c.villages.length cpv) bp (op + who) ba (oa + who) bq (oq + who) bb (ob + who) px ax qx bx) w' := h; have h0 := h.1.cell 0; have h1 := h.1.cell 1; go_simp) rfl ?_
      refine mix_pur2 rfl (fun K hK => ?_)
      go_simp
      first | refine ⟨_, fun _ => rfl, hK _ ?_⟩ | refine hK _ ?_
      clear hK K
      refine mix_pur2 rfl (fun K hK => ?_)
      go_simp
      first | refine ⟨_, fun _ => rfl, hK _ ?_⟩ | refine hK _ ?_
      clear hK K
      refine mix_pur2 rfl (fun K hK => ?_)
      go_simp
      first | refine ⟨_, fun _ => rfl, hK _ ?_⟩ | refine hK _ ?_
      clear hK K
      refine mix_pur2 rfl (fun K hK => ?_)
      go_simp
      first | refine ⟨_, fun _ => rfl, hK _ ?_⟩ | refine hK _ ?_
      clear hK K
      refine mix_loadg2 rfl rfl (.int .i64 qx) (by go_simp) (fun w' h => by have h : (HoS w2.heap.size (.slice am c.mountains.length cpm) (.slice av c.villages.length cpv) bp (op + who) ba (oa + who) bq (oq + who) bb (ob + who) px ax qx bx) w' := h; have h0 := h.2.2.2.1; go_simp) rfl ?_
      refine mix_loadg2 rfl rfl (.agg #[.slice am c.mountains.length cpm, .slice av c.villages.length cpv]) (by go_simp) (fun w' h => by have h : (HoS w2.heap.size (.slice am c.mountains.length cpm) (.slice av c.villages.length cpv) bp (op + who) ba (oa + who) bq (oq + who) bb (ob + who) px ax qx bx) w' := h; have h0 := h.1.cell 0; have h1 := h.1.cell 1; go_simp) rfl ?_
      refine mix_pur2 rfl (fun K hK => ?_)
      go_simp
      first | refine ⟨_, fun _ => rfl, hK _ ?_⟩ | refine hK _ ?_
      clear hK K
      refine mix_pur2 rfl (fun K hK => ?_)
      go_simp
      first | refine ⟨_, fun _ => rfl, hK _ ?_⟩ | refine hK _ ?_
      clear hK K
      refine mix_pur2 rfl (fun K hK => ?_)
      go_simp
      first | refine ⟨_, fun _ => rfl, hK _ ?_⟩ | refine hK _ ?_
      clear hK K
      refine mix_pur2 rfl (fun K hK => ?_)
      go_simp
      first | refine ⟨_, fun _ => rfl, hK _ ?_⟩ | refine hK _ ?_
      clear hK K
      refine mix_loadg2 rfl rfl (.int .i64 bx) (by go_simp) (fun w' h => by have h : (HoS w2.heap.size (.slice am c.mountains.length cpm) (.slice av c.villages.length cpv) bp (op + who) ba (oa + who) bq (oq + who) bb (ob + who) px ax qx bx) w' := h; have h0 := h.2.2.2.2; go_simp) rfl ?_
      refine mix_eff2 rfl false rfl (fun K hK => ?_)
      go_simp
      refine (plc_c (hCz.call hB4) who (by omega) qx).mono ?_
      rintro e y5 ⟨rfl, hCy5⟩
      have hB5 := hB4.trans (hCy5.mono hB4.size)
      refine hK _ _ (hE _ hB5) ?_
      clear hK K
      refine mix_eff2 rfl false rfl (fun K hK => ?_)
      go_simp
      refine (plc_c (hCz.call hB5) who (by omega) bx).mono ?_
      rintro e y6 ⟨rfl, hCy6⟩
      have hB6 := hB5.trans (hCy6.mono hB5.size)
      refine hK _ _ (hE _ hB6) ?_
      clear hK K
      refine mix_pur2 rfl (fun K hK => ?_)
      go_simp
      first | refine ⟨_, fun _ => rfl, hK _ ?_⟩ | refine hK _ ?_
      clear hK K
      refine mix_pur2 rfl (fun K hK => ?_)
      go_simp
      first | refine ⟨_, fun _ => rfl, hK _ ?_⟩ | refine hK _ ?_
      clear hK K
      refine mix_done2 ?_
      go_wp2_with fail
      go_roundw
      case rel => exact ⟨i + 1, by omega, by go_num, hBZ.trans (hB6.mono hBZ.size)⟩
      case measure => simp [intOf]; omega
    · obtain rfl : i = all.length := by omega
      go_wp2_with (go_at_call 21; refine (drawn_c _).mono ?_; rintro e wz ⟨rfl, hBz⟩)
      go_ret
      exact ⟨rfl, bnx (bnx hT hB) hBz⟩

end Go.Proofs.Ythchpoabncdicaa
