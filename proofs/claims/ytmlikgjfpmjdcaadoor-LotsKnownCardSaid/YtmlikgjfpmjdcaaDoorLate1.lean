/- The contract of Late (lots): what a late village gets and takes; conditions: valid commons of at most four mountains, a valid village, up to 99 places. -/
import Derived.Test.YtmlikgjfpmjdcaaDoorC4
namespace Go.Proofs.YtmlikgjfpmjdcaaDoor
open Go.RowKit

/-- What each of the first k gives up. -/
def lateL (b a : List Int) (k : Nat) : List Int := (List.range k).map (fun i => b.getD i 0 - a.getD i 0)
theorem lateL_succ (b a : List Int) (k : Nat) : lateL b a (k + 1) = lateL b a k ++ [b.getD k 0 - a.getD k 0] := by simp [lateL, List.range_succ]
theorem lateL_len (b a : List Int) (k : Nat) : (lateL b a k).length = k := by simp [lateL]

theorem Vils.more {A : Nat → Prop} {w w' : World} {vs : List Vil} {ls : List Value} {v' : Value} {B : Nat} {x y : Int} (hl : ls.length = vs.length) (hi : ∀ i (a : i < ls.length) (b : i < vs.length), Ints A w ls[i] vs[i].likes)
    (hown : w'.ownsRow B 28 3 v' (vs.length + 1) (vcells vs ls ++ [.int .i64 x, .int .i64 y, .slice none 0 0])) (hs : w.heap.size ≤ w'.heap.size) (hg : ∀ k, k < w.heap.size → w'.heap[k]? = w.heap[k]?) : Vils (fun _ => True) w' v' (vs ++ [⟨x, y, []⟩]) := by
  have e := vcells_append vs ls hl ⟨x, y, []⟩ (.slice none 0 0)
  dsimp only at e
  rw [← e] at hown
  refine ⟨ls ++ [.slice none 0 0], by simp [hl], ?_, fun i a b => ?_⟩
  · have h1 : Arr (fun k => B ≤ k) w' v' (vs.length + 1) (vcells (vs ++ [⟨x, y, []⟩]) (ls ++ [.slice none 0 0])) := Own.arr hown
    have h2 := h1.wide (A' := fun _ => True) (fun _ _ _ => trivial)
    simpa using h2
  · by_cases hi' : i < ls.length
    · have h1 := hi i hi' (by omega)
      simp only [List.getElem_append_left hi', List.getElem_append_left (show i < vs.length by omega)]
      exact (h1.step hs fun k _ hk => hg k hk).wide fun _ _ _ => trivial
    · have e1 : i = ls.length := by simp at a; omega
      subst e1
      rw [List.getElem_append_right (Nat.le_refl _), List.getElem_append_right (by omega)]
      simp only [Nat.sub_self, hl, List.getElem_cons_zero]
      exact ints_nil _ _

theorem Own.intsN {B : Nat} {w : World} {v : Value} {n : Nat} {l : List Int} (h : Own B w 3 1 v n (I64 l)) (hl : l.length = n) : Ints (fun b => B ≤ b) w v l := by subst hl; exact Own.ints h
theorem lit_cell (w : World) (cs : Array Value) (e : TypeId) (j : Nat) (u : Value) (h : cs.toList[j]? = some u) : (w.alloc (.cells cs e)).cell? ⟨w.heap.size, 0 + j, none⟩ = some u := by
  rw [Nat.zero_add, (Blk.new w cs e).cell j]
  simpa using h
theorem Vils.cells {A : Nat → Prop} {w : World} {b off n cap : Nat} {l : List Vil} (h : Vils A w (.slice (some ⟨b, off, none⟩) n cap) l) (hl : 0 < l.length) :
    ∃ ls : List Value, ∃ h0 : ls.length = l.length, (∀ j u, (vcells l ls)[j]? = some u → w.cell? ⟨b, off + j, none⟩ = some u) ∧ ∀ i (a : i < ls.length) (b : i < l.length), Ints A w ls[i] l[i].likes := by
  obtain ⟨vs, h0, ⟨ao', cap', hv, h1, h2, h3⟩, h4⟩ := h
  injection hv with e1 e2 e3
  subst e1
  rcases h3 with h3 | ⟨b', off', he, hA, hl', hc⟩
  · have := vcells_len l vs h0
    rw [h3] at this; simp at this; omega
  · injection he with he
    injection he with e1 e2
    subst e1; subst e2
    exact ⟨vs, h0, hc, h4⟩

set_option maxRecDepth 100000 in
set_option maxHeartbeats 2000000 in
theorem late_c {A : Nat → Prop} {w : World} {vm vv : Value} {c : Com} (h : Cm A w vm vv c) (hok : c.Ok 4) (x y : Int) (hx : 1 ≤ x ∧ x ≤ 50) (hy : 0 ≤ y ∧ y ≤ 60) (m : Nat) (hm : m ≤ 99) :
    Calls Tryd.prog 9 #[.agg #[vm, vv], .int .i64 x, .int .i64 y, .int .i64 m] w fun e w' => ∃ v', e = .returned (.tuple #[v', .int .i64 ((allotN (c.villages ++ [⟨x, y, []⟩]) m).getD c.villages.length 0), .int .i64 0]) ∧
      Ints (fun b => w.heap.size ≤ b) w' v' (lateL (allotN c.villages m) (allotN (c.villages ++ [⟨x, y, []⟩]) m) c.villages.length) ∧ Below w.heap.size w w' := by
  obtain ⟨am, cpm, rfl, _, _⟩ := h.1.shape
  obtain ⟨av, cpv, rfl, hvc, hvm⟩ := h.2.shape
  have hvl4 : c.villages.length ≤ 4 := by have := hok.vl; have := hok.n2; omega
  have hvl1 : 0 < c.villages.length := by have := hok.vl; have := hok.n1; omega
  obtain ⟨b0, o0, rfl, _, _⟩ := h.2.addr hvl1
  have hB0 : Below w.heap.size w (w.alloc (.cells #[.slice am c.mountains.length cpm, .slice (some ⟨b0, o0, none⟩) c.villages.length cpv] 25)) := (Below.refl _ w).alloc (Nat.le_refl _) _
  have hX : Blk w.heap.size #[.slice am c.mountains.length cpm, .slice (some ⟨b0, o0, none⟩) c.villages.length cpv] 25 (w.alloc (.cells #[.slice am c.mountains.length cpm, .slice (some ⟨b0, o0, none⟩) c.villages.length cpv] 25)) := Blk.new w _ _
  have h0 := h.call hB0
  have hpe : placesErrE c m = 0 := placesErr_of hok hm
  have hvok := hok.vok
  have hvok2 : VOk (c.villages ++ [⟨x, y, []⟩]) := by
    intro v hv
    rcases List.mem_append.1 hv with hv | hv
    · exact hvok v hv
    · rw [List.mem_singleton] at hv; subst hv; exact ⟨hx.1, hx.2, hy.1, hy.2⟩
  have t1 : btw x 1 50 = true := by simp [btw, hx.1, hx.2]
  have t2 : btw y 0 60 = true := by simp [btw, hy.1, hy.2]
  have HPE := Lib.hid hpe
  have HV := Lib.hid hvok
  have HV2 := Lib.hid hvok2
  clear hpe hvok hvok2
  go_enter Tryd.func9, Tryd.ntmps9
  go_wp2_with fail
  refine (placesError_c h0 _).mono ?_
  rintro e w1 ⟨rfl, hB1⟩
  rw [HPE.out]
  have h1 := h0.call hB1
  have hX1 := hX.call hB1
  have hT1 := bnx hB0 hB1
  clear h0 hX hB0 hB1
  have c1 := hX1.cell 1
  go_wp2_with (go_at_call 23; refine (between_c _ _ _ _).mono ?_; rintro e w' ⟨rfl, rfl⟩)
  clear c1
  refine (allot_c h1.2 HV.out (by omega) m (by omega)).mono ?_
  rintro e w2 ⟨vb, rfl, hvb, hB2⟩
  have h2 := h1.call hB2
  have hX2 := hX1.call hB2
  have hT2 := bnx hT1 hB2
  clear h1 hX1 hT1 hB2
  have c1 := hX2.cell 1
  obtain ⟨i51, hi51, hz51, hsz51, hby51⟩ := info_parts Tryd.info28
  have hL3 := (Below.refl w2.heap.size w2).alloc (Nat.le_refl _) (.cells #[.int .i64 x, .int .i64 y, .slice none 0 0] 28)
  have h3 := h2.call hL3
  have hX3 := hX2.call hL3
  have hT3 := bnx hT2 hL3
  have hvb3 := hvb.call hL3
  have hlit := fun j u hj => lit_cell w2 #[.int .i64 x, .int .i64 y, .slice none 0 0] 28 j u hj
  obtain ⟨ls, hls, hcl, hli⟩ := Vils.cells h3.2 hvl1
  clear h2 hX2 hT2 hvb
  go_wp2_with (at_builtin; refine wpList_append_grows _ rfl _ _ 23 rfl 28 i51 _ 3 40 Tryd.underlying23 hi51 hz51 hsz51 hby51 rfl (by decide) (some ⟨b0, o0, none⟩) c.villages.length c.villages.length (vcells c.villages ls) rfl (by simp) (vcells_len _ _ hls) (fun b hb j u hj => by injection hb with hb; subst hb; rw [Addr.add_lit]; exact hcl j u hj) ⟨w2.heap.size, 0, none⟩ 1 1 [.int .i64 x, .int .i64 y, .slice none 0 0] rfl rfl (fun j u hj => by rw [Addr.add_lit]; simpa using hlit j u hj) (vil_one x y none 0 0) (by omega) (by unfold maxLen; omega) (by omega) ?_; intro v3 w3 hown hg3)
  have hsz3 := hg3.size
  have hB3 : Below (w2.alloc (.cells #[.int .i64 x, .int .i64 y, .slice none 0 0] 28)).heap.size (w2.alloc (.cells #[.int .i64 x, .int .i64 y, .slice none 0 0] 28)) w3 := (Below.refl _ _).grown hg3 (Nat.le_refl _) (fun k e => by cases e)
  have hV3 := Vils.more hls hli hown hsz3 (fun k hk => hB3.block k hk)
  have hX4 := hX3.call hB3
  have hT4 := bnx hT3 hB3
  have hvb4 := hvb3.call hB3
  clear h3 hX3 hT3 hvb3 hlit hcl hli hown hg3 hB3 hL3 hsz3
  have hal := allot_c hV3 HV2.out (by simp; omega) m (by omega)
  have HAL := Lib.hid hal
  clear hal hV3
  go_wp2_with fail
  refine HAL.out.mono ?_
  rintro e w5 ⟨va, rfl, hva, hB5⟩
  have hT5 := bnx hT4 hB5
  have hvb5 := hvb4.call hB5
  clear HAL hX4 hT4 hvb4 hB5
  have hlb := allotN_len c.villages m
  have hla := allotN_len (c.villages ++ [⟨x, y, []⟩]) m
  simp only [List.length_append, List.length_cons, List.length_nil] at hla
  have hbb := allotN_bd c.villages m
  have hba := allotN_bd (c.villages ++ [⟨x, y, []⟩]) m
  obtain ⟨la, hlae⟩ : ∃ la, la = allotN (c.villages ++ [⟨x, y, []⟩]) m := ⟨_, rfl⟩
  obtain ⟨lb, hlbe⟩ : ∃ lb, lb = allotN c.villages m := ⟨_, rfl⟩
  rw [← hlae] at hva hla hba
  rw [← hlbe] at hvb5 hlb hbb
  have HLAE := Lib.hid hlae
  have HLBE := Lib.hid hlbe
  clear hlae hlbe
  have hsb := hvb5.shape
  rw [hlb] at hsb
  obtain ⟨ab, cb, rfl, _, _⟩ := hsb
  obtain ⟨bb, ob, rfl, -, -, -⟩ := hvb5.addr (by omega)
  have hsa := hva.shape
  rw [hla] at hsa
  obtain ⟨aa, ca, rfl, _, _⟩ := hsa
  obtain ⟨ba, oa, rfl, -, -, -⟩ := hva.addr (by omega)
  obtain ⟨q0, hq0⟩ : ∃ q0, q0 = la.getD c.villages.length 0 := ⟨_, rfl⟩
  have HQ0 := Lib.hid hq0
  have HLB := Lib.hid hlb
  have HLA := Lib.hid hla
  have HBB := Lib.hid hbb
  have HBA := Lib.hid hba
  clear hlb hla hbb hba hq0
  go_wp2_with fail
  go_loopw [8, 52] (fun o i wr => ∃ k : Nat, k ≤ c.villages.length ∧ i = .int .i64 k ∧ Own w5.heap.size wr 3 1 o k (I64 (lateL lb la k)) ∧ Below w5.heap.size w5 wr) (fun _ i _ => c.villages.length - (intOf i).toNat)
  case atStart => exact ⟨0, Nat.zero_le _, rfl, Own.nil, Below.refl _ _⟩
  case round =>
    obtain ⟨k, hk, rfl, ho, hB⟩ := hrel
    have hsz := hB.size
    by_cases hlt : k < c.villages.length
    · have hkb : k < lb.length := by have := HLB.out; omega
      have hka : k < la.length := by have := HLA.out; omega
      have e1 := (hvb5.call hB).cell k hkb
      have e2 := (hva.call hB).cell k hka
      have bd1 := HBB.out _ (List.getElem_mem hkb)
      have bd2 := HBA.out _ (List.getElem_mem hka)
      have hsn := lateL_succ lb la k
      rw [show lb.getD k 0 = lb[k] by simp [hkb], show la.getD k 0 = la[k] by simp [hka]] at hsn
      obtain ⟨p, hp⟩ : ∃ p, p = lb[k] := ⟨_, rfl⟩
      obtain ⟨q, hq⟩ : ∃ q, q = la[k] := ⟨_, rfl⟩
      rw [← hp] at e1 bd1 hsn
      rw [← hq] at e2 bd2 hsn
      have HS := Lib.hid hsn
      clear hsn hp hq
      have ho' := Own.alloc ho (.cells #[.int .i64 (p - q)] 3)
      have ha := arr_one wr 3 (.int .i64 (p - q))
      go_wp2_with (at_builtin; refine wpList_append_arr rfl _ _ 22 rfl 3 (.int .i64 0) 1 8 Tryd.underlying22 Tryd.info3 rfl (by decide) (by decide) (by simp; omega) ho' rfl ha rfl rfl (one_int _) (by omega) ?_; intro v' w' hown hT)
      go_roundw
      case rel => exact ⟨k + 1, by omega, by go_num, by rw [HS.out, I64_append]; exact hown, hT.below ho' (bal hB) (by simp; omega)⟩
      case measure => simp [intOf]; omega
    · obtain rfl : k = c.villages.length := by omega
      have hka : c.villages.length < la.length := by have := HLA.out; omega
      have e2 := (hva.call hB).cell _ hka
      have e3 : la.getD c.villages.length 0 = la[c.villages.length] := by simp [hka]
      rw [← e3, ← HQ0.out] at e2
      clear e3
      go_wp2_with fail
      go_quiet (fail)
      rename_i nq
      have ho2 := ho.drewN nq
      have hB2 := hB.trans ((show Qt wr (wr.drewN nq) from ⟨nq, rfl⟩).below _)
      generalize wr.drewN nq = w9 at *
      go_wp2
      go_ret3
      have hoi := Own.intsN ho2 (lateL_len _ _ _)
      rw [← HLAE.out, ← HLBE.out, ← HQ0.out]
      exact ⟨_, rfl, hoi.wide fun b hb _ => by have := hT5.size; omega, bnx hT5 hB2⟩

end Go.Proofs.YtmlikgjfpmjdcaaDoor
