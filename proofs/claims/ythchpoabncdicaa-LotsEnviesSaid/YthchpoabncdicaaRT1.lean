/- Blocks of bools; who points at whom, as mestaref08 finds it; conditions: as said. -/
import Derived.Test.YthchpoabncdicaaRS1
namespace Go.Proofs.Ythchpoabncdicaa
open Go.RowKit

def BL (l : List Bool) : List Value := l.map Value.bool
theorem BL_len (l : List Bool) : (BL l).length = l.length := List.length_map _
/-- A made block of bools, known whole. -/
def BoolBlk (w : World) (g : Nat) (l : List Bool) : Prop := w.heap[g]? = some (.cells (BL l).toArray 4 (0, 0))
theorem BoolBlk.lt {w : World} {g : Nat} {l : List Bool} (h : BoolBlk w g l) : g < w.heap.size := (Array.getElem?_eq_some_iff.1 h).1
theorem BoolBlk.cell {w : World} {g : Nat} {l : List Bool} (h : BoolBlk w g l) (j : Nat) (hj : j < l.length) : w.cell? ⟨g, j, none⟩ = some (.bool l[j]) := by
  unfold BoolBlk at h
  rw [World.cell?, h]
  simp [BL, hj]
theorem BoolBlk.free {w : World} {g : Nat} {l : List Bool} (h : BoolBlk w g l) (j : Nat) : w.frozen? ⟨g, j, none⟩ = false := by
  unfold BoolBlk at h
  rw [World.frozen?, h]
  simp
theorem BoolBlk.set {w : World} {g : Nat} {l : List Bool} (h : BoolBlk w g l) (j : Nat) (x : Bool) : BoolBlk (w.setCell ⟨g, j, none⟩ (.bool x)) g (l.set j x) := by
  unfold BoolBlk at *
  simp only [World.setCell, Array.getElem?_modify, h]
  simp [BL, List.map_set]
theorem BoolBlk.step {w w' : World} {g : Nat} {l : List Bool} (h : BoolBlk w g l) (hb : w'.heap[g]? = w.heap[g]?) : BoolBlk w' g l := hb.trans h
theorem BoolBlk.call {w w' : World} {g : Nat} {l : List Bool} (h : BoolBlk w g l) (hB : Below w.heap.size w w') : BoolBlk w' g l := h.step (hB.block g h.lt)
theorem BoolBlk.other {w : World} {g : Nat} {l : List Bool} (h : BoolBlk w g l) {a : Addr} (ha : a.block ≠ g) (u : Value) : BoolBlk (w.setCell a u) g l := h.step (Below.heap_setCell w a u g (by omega))
theorem BoolBlk.alloc {w : World} {g : Nat} {l : List Bool} (h : BoolBlk w g l) (o : Obj) : BoolBlk (w.alloc o) g l := h.step (Below.heap_alloc w o g h.lt)
theorem Try.info4 : (Try.prog.info? 4).map (fun i => (i.zero, i.size, i.bytes)) = some (some (.bool false), 1, 1) := by kernel_rfl
theorem make_bools_fact (n : Nat) (hn : n ≤ 1000000) (w : World) :
    (Instr.makeSlice 97 (.int .i64 (n : Int)) (.int .i64 (n : Int))).run Try.prog w = .ok (.slice (some ⟨w.heap.size, 0, none⟩) n n) (w.alloc (.cells (BL (List.replicate n false)).toArray 4)) := by
  obtain ⟨i, hi, hz, hs, hb⟩ := info_parts Try.info4
  have hb' : (i.bytes : Int) * (n : Int) ≤ 281474976710656 := by rw [hb]; omega
  have hr := run_make (P := Try.prog) w 97 4 i (.bool false) Try.underlying97 hi hz .i64 .i64 n n (by omega) (Int.le_refl _) hb' (by omega)
  simp only [Int.toNat_natCast] at hr
  have e : madeCells (Value.bool false).cells (n * i.size) = (BL (List.replicate n false)).toArray := by
    apply Array.ext'
    rw [hs, Nat.mul_one]
    exact (toList_madeCells_one _ n).trans (by simp [BL])
  rw [e] at hr
  exact hr
theorem boolBlk_made (w : World) (n : Nat) : BoolBlk (w.alloc (.cells (BL (List.replicate n false)).toArray 4)) w.heap.size (List.replicate n false) := by
  unfold BoolBlk
  exact heap_alloc_new w _

/-- A mask as a list of bools. -/
def bools (n m : Nat) : List Bool := (List.range n).map (hasB m)
theorem bools_len (n m : Nat) : (bools n m).length = n := by simp [bools]
theorem bools_at (n m j : Nat) (h : j < (bools n m).length) : (bools n m)[j] = hasB m j := by simp [bools]

/-- The best of the first k that are left. -/
def bestTo (vs : List Vil) (order : List Int) (m v : Nat) : Nat → Option Nat
  | 0 => none
  | k + 1 => match bestTo vs order m v k with
    | none => if hasB m k = true then some k else none
    | some b => if hasB m k = true ∧ rk vs v (order.getD k 0) < rk vs v (order.getD b 0) then some k else some b
theorem bestTo_spec (vs : List Vil) (order : List Int) (m v : Nat) : ∀ k, (bestTo vs order m v k = none ∧ ∀ j, j < k → hasB m j = false) ∨
    (∃ b, bestTo vs order m v k = some b ∧ b < k ∧ hasB m b = true ∧ ∀ j, j < k → hasB m j = true → rk vs v (order.getD b 0) ≤ rk vs v (order.getD j 0))
  | 0 => .inl ⟨rfl, by omega⟩
  | k + 1 => by
    rcases bestTo_spec vs order m v k with ⟨h1, h2⟩ | ⟨b, h1, h2, h3, h4⟩
    · rw [bestTo, h1]
      by_cases hk : hasB m k = true
      · refine .inr ⟨k, by simp [hk], by omega, hk, fun j hj hm => ?_⟩
        by_cases e : j = k
        · subst e; exact Int.le_refl _
        · rw [h2 j (by omega)] at hm; cases hm
      · refine .inl ⟨by simp [hk], fun j hj => ?_⟩
        by_cases e : j = k
        · subst e; simpa using hk
        · exact h2 j (by omega)
    · rw [bestTo, h1]
      by_cases hk : hasB m k = true ∧ rk vs v (order.getD k 0) < rk vs v (order.getD b 0)
      · refine .inr ⟨k, if_pos hk, by omega, hk.1, fun j hj hm => ?_⟩
        by_cases e : j = k
        · subst e; exact Int.le_refl _
        · have := h4 j (by omega) hm; have := hk.2; omega
      · refine .inr ⟨b, if_neg hk, by omega, h3, fun j hj hm => ?_⟩
        by_cases e : j = k
        · subst e
          have : ¬ rk vs v (order.getD j 0) < rk vs v (order.getD b 0) := fun h => hk ⟨hm, h⟩
          omega
        · exact h4 j (by omega) hm

theorem placeOf_get {l : List Int} {x : Int} (h : x ∈ l) : ∃ (q : Nat) (hq : q < l.length), placeOf l x = q ∧ l[q] = x := by
  have hb := placeOf_bd h
  rw [placeOf] at hb ⊢
  split at hb
  · rename_i i hi
    rw [List.idxOf?, List.findIdx?_eq_some_iff_getElem] at hi
    obtain ⟨h1, h2, _⟩ := hi
    exact ⟨i, h1, by simp, by simpa using h2⟩
  · omega
theorem ptV_spec {vs : List Vil} {order : List Int} {m v : Nat} (hp : PermOf order.length order) (hv : v < vs.length) (hl : PermOf order.length vs[v].likes) (_hm : ∀ j, hasB m j = true → j < order.length) (h : ∃ u, u < order.length ∧ hasB m u = true) :
    hasB m (ptV vs order m v) = true ∧ ∀ j, j < order.length → hasB m j = true → rk vs v (order.getD (ptV vs order m v) 0) ≤ rk vs v (order.getD j 0) := by
  refine ⟨ptV_in hp hv hl h, fun j hj hmj => ?_⟩
  have hget : (vs.getD v ⟨0, 0, []⟩).likes = vs[v].likes := by simp [hv]
  rw [ptV, hget]
  split
  · rename_i x hx
    rw [List.find?_eq_some_iff_getElem] at hx
    obtain ⟨hx1, r, hr, hxr, hpre⟩ := hx
    have hxm : x ∈ order := (hp.mem _).2 ((hl.mem _).1 (by rw [← hxr]; exact List.getElem_mem hr))
    obtain ⟨q, hq, hq1, hq2⟩ := placeOf_get hxm
    have e1 : order.getD (placeOf order x).toNat 0 = x := by rw [hq1, Int.toNat_natCast]; simp [hq, hq2]
    have hjm : order[j] ∈ vs[v].likes := (hl.mem _).2 ((hp.mem _).1 (List.getElem_mem hj))
    have e2 : order.getD j 0 = order[j] := by simp [hj]
    rw [e1, e2, rk_at hv, rk_at hv]
    have e3 : placeOf vs[v].likes x = r := by rw [← hxr]; exact placeOf_at hl.nodup hr
    obtain ⟨q2, hq3, hq4, hq5⟩ := placeOf_get hjm
    rw [e3, hq4]
    by_cases hlt : q2 < r
    · have := hpre q2 hlt
      rw [hq5, placeOf_at hp.nodup hj, Int.toNat_natCast, hmj] at this
      simp at this
    · omega
  · rename_i hx
    exfalso
    obtain ⟨u, hu, hb⟩ := h
    rw [List.find?_eq_none] at hx
    have h1 : order[u] ∈ vs[v].likes := (hl.mem _).2 ((hp.mem _).1 (List.getElem_mem hu))
    have h3 := hx _ h1
    rw [placeOf_at hp.nodup hu] at h3
    exact absurd hb h3
theorem best_pt {vs : List Vil} {order : List Int} {m v : Nat} (hp : PermOf order.length order) (hv : v < vs.length) (hl : PermOf order.length vs[v].likes) (hm : ∀ j, hasB m j = true → j < order.length) (h : ∃ u, u < order.length ∧ hasB m u = true) :
    bestTo vs order m v order.length = some (ptV vs order m v) := by
  obtain ⟨p1, p2⟩ := ptV_spec hp hv hl hm h
  have p3 := hm _ p1
  rcases bestTo_spec vs order m v order.length with ⟨_, h2⟩ | ⟨b, h1, h2, h3, h4⟩
  · obtain ⟨u, hu, hb⟩ := h
    rw [h2 u hu] at hb; cases hb
  · rw [h1]
    have a1 := p2 b h2 h3
    have a2 := h4 _ p3 p1
    have e : rk vs v (order.getD b 0) = rk vs v (order.getD (ptV vs order m v) 0) := by omega
    have g1 : order.getD b 0 = order[b] := by simp [h2]
    have g2 : order.getD (ptV vs order m v) 0 = order[ptV vs order m v] := by simp [p3]
    rw [g1, g2, rk_at hv, rk_at hv] at e
    have m1 : order[b] ∈ vs[v].likes := (hl.mem _).2 ((hp.mem _).1 (List.getElem_mem h2))
    have m2 : order[ptV vs order m v] ∈ vs[v].likes := (hl.mem _).2 ((hp.mem _).1 (List.getElem_mem p3))
    obtain ⟨q1, hq1, e1, f1⟩ := placeOf_get m1
    obtain ⟨q2, hq2, e2, f2⟩ := placeOf_get m2
    have : q1 = q2 := by omega
    subst this
    rw [f1] at f2
    have := (List.getElem_inj hp.nodup).1 f2
    rw [this]

/-- What points reads. -/
def PtS (b : Nat) (vm vv : Value) (A : Nat → Prop) (vl : Value) (l : List Int) (gl : Nat) (lb : List Bool) (w : World) : Prop := Blk b #[vm, vv] 25 w ∧ Ints A w vl l ∧ BoolBlk w gl lb
theorem PtS.call {b : Nat} {vm vv : Value} {A : Nat → Prop} {vl : Value} {l : List Int} {gl : Nat} {lb : List Bool} {w w' : World} (h : PtS b vm vv A vl l gl lb w) (hB : Below w.heap.size w w') : PtS b vm vv A vl l gl lb w' := ⟨h.1.call hB, h.2.1.call hB, h.2.2.call hB⟩
theorem PtS.drew {b : Nat} {vm vv : Value} {A : Nat → Prop} {vl : Value} {l : List Int} {gl : Nat} {lb : List Bool} {w : World} (h : PtS b vm vv A vl l gl lb w) : PtS b vm vv A vl l gl lb w.drew := ⟨h.1, h.2.1.drewN 1, h.2.2⟩

def ptsTo (vs : List Vil) (order : List Int) (m k : Nat) : List Int := (List.range order.length).map fun v => if v < k then (ptV vs order m v : Int) else 0
theorem ptsTo_zero (vs : List Vil) (order : List Int) (m : Nat) : ptsTo vs order m 0 = List.replicate order.length 0 := by
  rw [ptsTo, List.eq_replicate_iff]; simp
theorem ptsTo_len (vs : List Vil) (order : List Int) (m k : Nat) : (ptsTo vs order m k).length = order.length := by simp [ptsTo]
theorem ptsTo_at (vs : List Vil) (order : List Int) (m k j : Nat) (h : j < (ptsTo vs order m k).length) : (ptsTo vs order m k)[j] = if j < k then (ptV vs order m j : Int) else 0 := by simp [ptsTo]
theorem ptsTo_succ (vs : List Vil) (order : List Int) (m k : Nat) (_hk : k < order.length) : ptsTo vs order m (k + 1) = (ptsTo vs order m k).set k (ptV vs order m k : Int) := by
  apply List.ext_getElem
  · simp [ptsTo]
  · intro j h1 h2
    rw [ptsTo_at, List.getElem_set]
    by_cases e : k = j
    · subst e; simp
    · rw [if_neg e, ptsTo_at]
      have : (j < k + 1) ↔ (j < k) := by omega
      simp [this]

set_option maxRecDepth 100000 in
set_option maxHeartbeats 4000000 in
theorem rpoints_c {A A' : Nat → Prop} {w : World} {vm vv vl : Value} {c : Com} {order : List Int} {gl m : Nat} (h : Cm A w vm vv c) (hd : Ints A' w vl order) (hlf : BoolBlk w gl (bools order.length m)) (hn4 : order.length ≤ 4) (hvl : c.villages.length = order.length)
    (hlk : ∀ v ∈ c.villages, PermOf order.length v.likes) (hp : PermOf order.length order) (hm : ∀ j, hasB m j = true → j < order.length) (hu : ∃ u, u < order.length ∧ hasB m u = true) :
    Calls Try.prog 85 #[.agg #[vm, vv], vl, .slice (some ⟨gl, 0, none⟩) order.length order.length] w fun e w' => ∃ g, e = .returned (.slice (some ⟨g, 0, none⟩) order.length order.length) ∧ w.heap.size ≤ g ∧ IntBlk w' g (ptsTo c.villages order m order.length) ∧ Below w.heap.size w w' := by
  have hin : ∀ (v k : Nat) (hv : v < c.villages.length) (hk : k < order.length), order[k] ∈ c.villages[v].likes := fun v k hv hk => ((hlk _ (List.getElem_mem hv)).mem _).2 ((hp.mem _).1 (List.getElem_mem hk))
  have hbest : ∀ v, v < order.length → bestTo c.villages order m v order.length = some (ptV c.villages order m v) := fun v hv => best_pt hp (by omega) (hlk _ (List.getElem_mem (by omega))) hm hu
  have hn0 : 0 < order.length := by obtain ⟨u, hu, _⟩ := hu; omega
  obtain ⟨am, cpm, rfl, _, _⟩ := h.1.shape
  obtain ⟨av, cpv, rfl, _, _⟩ := h.2.shape
  obtain ⟨al, cl, rfl, _, _⟩ := hd.shape
  obtain ⟨bl, ol, rfl, _, _, _⟩ := hd.addr hn0
  have hB0 : Below w.heap.size w (w.alloc (.cells #[.slice am c.mountains.length cpm, .slice av c.villages.length cpv] 25)) := (Below.refl _ w).alloc (Nat.le_refl _) _
  have hx : PtS w.heap.size (.slice am c.mountains.length cpm) (.slice av c.villages.length cpv) A' (.slice (some ⟨bl, ol, none⟩) order.length cl) order gl (bools order.length m) (w.alloc (.cells #[.slice am c.mountains.length cpm, .slice av c.villages.length cpv] 25)) := ⟨Blk.new w _ _, hd.call hB0, hlf.alloc _⟩
  have h0 := h.call hB0
  have hmk := make_ints_fact order.length (by omega)
  have hI0 := intBlk_made (w.alloc (.cells #[.slice am c.mountains.length cpm, .slice av c.villages.length cpv] 25)) order.length
  have HBEST := Lib.hid hbest
  have HVL := Lib.hid hvl
  have HIN := Lib.hid hin
  have hvl' : c.villages.length ≤ order.length := by omega
  have hvl2 : order.length ≤ c.villages.length := by omega
  clear hbest hvl hlk hp hm hu hin
  have hg0 : (w.alloc (.cells #[.slice am c.mountains.length cpm, .slice av c.villages.length cpv] 25)).heap.size = w.heap.size + 1 := by simp
  rw [hg0] at hI0
  have hx1 := hx.call ((Below.refl _ (w.alloc (.cells #[.slice am c.mountains.length cpm, .slice av c.villages.length cpv] 25))).alloc (Nat.le_refl _) (.cells (I64 (List.replicate order.length 0)).toArray 3))
  have hB1 := bal (o := .cells (I64 (List.replicate order.length 0)).toArray 3) hB0
  rw [← ptsTo_zero c.villages order m] at hI0 hx1 hB1
  go_enter Try.func85, Try.ntmps85
  go_upto_region 2 with fail
  rw [← ptsTo_zero c.villages order m]
  generalize (w.alloc (.cells #[.slice am c.mountains.length cpm, .slice av c.villages.length cpv] 25)).alloc (.cells (I64 (ptsTo c.villages order m 0)).toArray 3) = w1 at *
  obtain ⟨g, hg⟩ : ∃ g, g = w.heap.size + 1 := ⟨_, rfl⟩
  rw [← hg] at hI0 ⊢
  have hgw : w.heap.size ≤ g := by omega
  have hgx : g ≠ w.heap.size := by omega
  have hlg := hlf.lt
  have hgl : g ≠ gl := by omega
  clear hg hg0 hx h0 hB0 hmk
  go_wp2_with fail
  go_loopw [8] (fun s wr => ∃ i : Nat, i ≤ order.length ∧ s = .int .i64 i ∧ IntBlk wr g (ptsTo c.villages order m i) ∧ (PtS w.heap.size (.slice am c.mountains.length cpm) (.slice av c.villages.length cpv) A' (.slice (some ⟨bl, ol, none⟩) order.length cl) order gl (bools order.length m)) wr ∧ Below w.heap.size w wr) (fun s _ => order.length - (intOf s).toNat)
  case atStart => exact ⟨0, Nat.zero_le _, rfl, hI0, hx1, hB1⟩
  case round =>
    obtain ⟨i, hi, rfl, hIr, hSr, hBr⟩ := hrel
    by_cases hin' : i < order.length
    · have hiv : i < c.villages.length := by omega
      go_wp2_with fail
      go_loopw [9, 10] (fun s9 s10 wx => ∃ k : Nat, k ≤ order.length ∧ s10 = .int .i64 k ∧ s9 = .int .i64 (optI (bestTo c.villages order m i k)) ∧ IntBlk wx g (ptsTo c.villages order m i) ∧ (PtS w.heap.size (.slice am c.mountains.length cpm) (.slice av c.villages.length cpv) A' (.slice (some ⟨bl, ol, none⟩) order.length cl) order gl (bools order.length m)) wx ∧ Below w.heap.size w wx) (fun _ s10 _ => order.length - (intOf s10).toNat)
      case atStart => exact ⟨0, Nat.zero_le _, rfl, rfl, hIr, hSr, hBr⟩
      case round =>
        rename World => wx
        obtain ⟨k, hk, rfl, rfl, hIx, hSx, hBx⟩ := hrel
        by_cases hkn : k < order.length
        · have hkb : k < (bools order.length m).length := by rw [bools_len]; exact hkn
          have hbk := bools_at order.length m k hkb
          cases hmb : hasB m k with
          | false =>
            rw [hmb] at hbk
            have h0 := hSx.2.2.cell k hkb
            rw [hbk] at h0
            have hb1 : bestTo c.villages order m i (k + 1) = bestTo c.villages order m i k := by
              rw [bestTo]
              split
              · rename_i e; simp [hmb, e]
              · rename_i b e; simp [hmb, e]
            have HB1 := Lib.hid hb1
            clear hb1 hbk hmb
            go_wp2_with fail
            go_quiet (fail)
            rename_i nq
            go_wp2
            go_roundw
            case rel => exact ⟨k + 1, by omega, by go_num, by rw [HB1.out], hIx.call ((show Qt wx (wx.drewN _) from ⟨_, rfl⟩).below _), hSx.call ((show Qt wx (wx.drewN _) from ⟨_, rfl⟩).below _), hBx.trans ((show Qt wx (wx.drewN _) from ⟨_, rfl⟩).below _)⟩
            case measure => simp [intOf]; omega
          | true =>
            rw [hmb] at hbk
            cases hbt : bestTo c.villages order m i k with
            | none =>
              have h0 := hSx.2.2.cell k hkb
              rw [hbk] at h0
              have hb1 : bestTo c.villages order m i (k + 1) = some k := by rw [bestTo, hbt, hmb]; rfl
              have HB1 := Lib.hid hb1
              have ho : optI (none : Option Nat) = -1 := rfl
              clear hb1 hbk hmb hbt
              go_wp2_with fail
              go_quiet (fail)
              rename_i nq
              go_wp2
              go_roundw
              case rel => exact ⟨k + 1, by omega, by go_num, by rw [HB1.out]; rfl, hIx.call ((show Qt wx (wx.drewN _) from ⟨_, rfl⟩).below _), hSx.call ((show Qt wx (wx.drewN _) from ⟨_, rfl⟩).below _), hBx.trans ((show Qt wx (wx.drewN _) from ⟨_, rfl⟩).below _)⟩
              case measure => simp [intOf]; omega
            | some b =>
              have hbk2 : b < k := by
                rcases bestTo_spec c.villages order m i k with ⟨h1, _⟩ | ⟨b', h1, h2, _⟩
                · rw [h1] at hbt; simp at hbt
                · rw [h1] at hbt; injection hbt with hbt; omega
              have hbn : b < order.length := by omega
              have hst : bestTo c.villages order m i (k + 1) = if rk c.villages i (order[k]'hkn) < rk c.villages i (order[b]'hbn) then some k else some b := by
                rw [bestTo, hbt]
                simp only [hmb, true_and, show order.getD k 0 = order[k]'hkn by simp [hkn], show order.getD b 0 = order[b]'hbn by simp [hbn]]
              have ho : optI (some b) = (b : Int) := rfl
              have HBK := Lib.hid hbk
              have HST := Lib.hid hst
              clear hst hbk hmb hbt
              go_wp2_with fail
              refine wp_region_mix2 (.pur 0 (.pur 1 (.pur 2 (.one 3 (.pur 4 (.pur 5 (.pur 6 (.pur 7 (.one 8 (.pur 9 (.pur 10 (.pur 11 (.pur 12 (.one 13 (.one 15 (.pur 16 (.pur 17 (.pur 18 (.pur 19 (.one 20 (.act 14 (.act 21 (.pur 22 (.pur 23 (.pur 24 .fin))))))))))))))))))))))))) 99 (PtS w.heap.size (.slice am c.mountains.length cpm) (.slice av c.villages.length cpv) A' (.slice (some ⟨bl, ol, none⟩) order.length cl) order gl (bools order.length m)) (fun _ => True) (by kernel_rfl) (by kernel_rfl) rfl (by kernel_rfl) hSx.drew (fun wd hqd _ => ?_)
              have hB1 := hBx.trans (hqd.below _)
              have hS1 := hSx.call (hqd.below _)
              have hI1 := hIx.call (hqd.below _)
              refine mix_pur2 rfl (fun K hK => ?_)
              go_simp
              first | refine ⟨_, fun _ => rfl, hK _ ?_⟩ | refine hK _ ?_
              clear hK K
              refine mix_pur2 rfl (fun K hK => ?_)
              go_simp
              first | refine ⟨_, fun _ => rfl, hK _ ?_⟩ | refine hK _ ?_
              clear hK K
              refine mix_pur2 rfl (fun K hK => ?_)
              go_simp
              first | refine ⟨_, fun _ => rfl, hK _ ?_⟩ | refine hK _ ?_
              clear hK K
              refine mix_load2 rfl rfl rfl (.bool true) (fun w' h => by have h : (PtS w.heap.size (.slice am c.mountains.length cpm) (.slice av c.villages.length cpv) A' (.slice (some ⟨bl, ol, none⟩) order.length cl) order gl (bools order.length m)) w' := h; have h0 := h.2.2.cell k hkb; rw [HBK.out] at h0; go_simp) rfl ?_
              refine mix_pur2 rfl (fun K hK => ?_)
              go_simp
              first | refine ⟨_, fun _ => rfl, hK _ ?_⟩ | refine hK _ ?_
              clear hK K
              refine mix_pur2 rfl (fun K hK => ?_)
              go_simp
              first | refine ⟨_, fun _ => rfl, hK _ ?_⟩ | refine hK _ ?_
              clear hK K
              refine mix_pur2 rfl (fun K hK => ?_)
              go_simp
              first | refine ⟨_, fun _ => rfl, hK _ ?_⟩ | refine hK _ ?_
              clear hK K
              refine mix_pur2 rfl (fun K hK => ?_)
              go_simp
              first | refine ⟨_, fun _ => rfl, hK _ ?_⟩ | refine hK _ ?_
              clear hK K
              refine mix_loadg2 rfl rfl (.agg #[.slice am c.mountains.length cpm, .slice av c.villages.length cpv]) (by go_simp) (fun w' h => by have h : (PtS w.heap.size (.slice am c.mountains.length cpm) (.slice av c.villages.length cpv) A' (.slice (some ⟨bl, ol, none⟩) order.length cl) order gl (bools order.length m)) w' := h; have h0 := h.1.cell 0; have h1 := h.1.cell 1; go_simp) rfl ?_
              refine mix_pur2 rfl (fun K hK => ?_)
              go_simp
              first | refine ⟨_, fun _ => rfl, hK _ ?_⟩ | refine hK _ ?_
              clear hK K
              refine mix_pur2 rfl (fun K hK => ?_)
              go_simp
              first | refine ⟨_, fun _ => rfl, hK _ ?_⟩ | refine hK _ ?_
              clear hK K
              refine mix_pur2 rfl (fun K hK => ?_)
              go_simp
              first | refine ⟨_, fun _ => rfl, hK _ ?_⟩ | refine hK _ ?_
              clear hK K
              refine mix_pur2 rfl (fun K hK => ?_)
              go_simp
              first | refine ⟨_, fun _ => rfl, hK _ ?_⟩ | refine hK _ ?_
              clear hK K
              refine mix_loadg2 rfl rfl (.int .i64 (order[k]'hkn)) (by go_simp) (fun w' h => by have h : (PtS w.heap.size (.slice am c.mountains.length cpm) (.slice av c.villages.length cpv) A' (.slice (some ⟨bl, ol, none⟩) order.length cl) order gl (bools order.length m)) w' := h; have h0 := h.2.1.cell k hkn; go_simp) rfl ?_
              refine mix_loadg2 rfl rfl (.agg #[.slice am c.mountains.length cpm, .slice av c.villages.length cpv]) (by go_simp) (fun w' h => by have h : (PtS w.heap.size (.slice am c.mountains.length cpm) (.slice av c.villages.length cpv) A' (.slice (some ⟨bl, ol, none⟩) order.length cl) order gl (bools order.length m)) w' := h; have h0 := h.1.cell 0; have h1 := h.1.cell 1; go_simp) rfl ?_
              refine mix_pur2 rfl (fun K hK => ?_)
              go_simp
              first | refine ⟨_, fun _ => rfl, hK _ ?_⟩ | refine hK _ ?_
              clear hK K
              refine mix_pur2 rfl (fun K hK => ?_)
              go_simp
              first | refine ⟨_, fun _ => rfl, hK _ ?_⟩ | refine hK _ ?_
              clear hK K
              refine mix_pur2 rfl (fun K hK => ?_)
              go_simp
              first | refine ⟨_, fun _ => rfl, hK _ ?_⟩ | refine hK _ ?_
              clear hK K
              refine mix_pur2 rfl (fun K hK => ?_)
              go_simp
              first | refine ⟨_, fun _ => rfl, hK _ ?_⟩ | refine hK _ ?_
              clear hK K
              refine mix_loadg2 rfl rfl (.int .i64 (order[b]'hbn)) (by go_simp) (fun w' h => by have h : (PtS w.heap.size (.slice am c.mountains.length cpm) (.slice av c.villages.length cpv) A' (.slice (some ⟨bl, ol, none⟩) order.length cl) order gl (bools order.length m)) w' := h; have h0 := h.2.1.cell b hbn; go_simp) rfl ?_
              refine mix_eff2 rfl false rfl (fun K hK => ?_)
              go_simp
              refine (rrank_c (h.call hB1) i hiv (order[k]'hkn) (HIN.out i k hiv hkn)).mono ?_
              rintro e w2 ⟨rfl, hC2⟩
              have hB2 := hB1.trans (hC2.mono hB1.size)
              have hS2 := hS1.call hC2
              have hI2 := hI1.call hC2
              refine hK _ _ hS2 ?_
              clear hK K
              refine mix_eff2 rfl false rfl (fun K hK => ?_)
              go_simp
              refine (rrank_c (h.call hB2) i hiv (order[b]'hbn) (HIN.out i b hiv hbn)).mono ?_
              rintro e w3 ⟨rfl, hC3⟩
              have hB3 := hB2.trans (hC3.mono hB2.size)
              have hS3 := hS2.call hC3
              have hI3 := hI2.call hC3
              refine hK _ _ hS3 ?_
              clear hK K
              refine mix_pur2 rfl (fun K hK => ?_)
              go_simp
              first | refine ⟨_, fun _ => rfl, hK _ ?_⟩ | refine hK _ ?_
              clear hK K
              refine mix_pur2 rfl (fun K hK => ?_)
              go_simp
              first | refine ⟨_, fun _ => rfl, hK _ ?_⟩ | refine hK _ ?_
              clear hK K
              refine mix_pur2 rfl (fun K hK => ?_)
              go_simp
              first | refine ⟨_, fun _ => rfl, hK _ ?_⟩ | refine hK _ ?_
              clear hK K
              refine mix_done2 ?_
              by_cases hlt : rk c.villages i (order[k]'hkn) < rk c.villages i (order[b]'hbn)
              · have hst := HST.out
                rw [if_pos hlt] at hst
                have HS2 := Lib.hid hst
                have b1 : decide (rk c.villages i (order[k]'hkn) < rk c.villages i (order[b]'hbn)) = true := decide_eq_true hlt
                clear hst
                go_wp2_with fail
                go_roundw
                case rel => exact ⟨k + 1, by omega, by go_num, by rw [HS2.out]; rfl, hI3, hS3, hB3⟩
                case measure => simp [intOf]; omega
              · have hst := HST.out
                rw [if_neg hlt] at hst
                have HS2 := Lib.hid hst
                have b1 : decide (rk c.villages i (order[k]'hkn) < rk c.villages i (order[b]'hbn)) = false := decide_eq_false hlt
                clear hst
                go_wp2_with fail
                go_roundw
                case rel => exact ⟨k + 1, by omega, by go_num, by rw [HS2.out]; rfl, hI3, hS3, hB3⟩
                case measure => simp [intOf]; omega
        · obtain rfl : k = order.length := by omega
          rw [HBEST.out i hin']
          have ho : optI (some (ptV c.villages order m i)) = (ptV c.villages order m i : Int) := rfl
          have q1 := hIx.cell i (by rw [ptsTo_len]; exact hin')
          have f1 := hIx.free i
          have hI2 := hIx.set i (ptV c.villages order m i : Int)
          rw [← ptsTo_succ c.villages order m i hin'] at hI2
          have hB2 : Below w.heap.size w (wx.setCell ⟨g, i, none⟩ (.int .i64 (ptV c.villages order m i : Int))) := hBx.setCell hgw _
          have hS2 : (PtS w.heap.size (.slice am c.mountains.length cpm) (.slice av c.villages.length cpv) A' (.slice (some ⟨bl, ol, none⟩) order.length cl) order gl (bools order.length m)) (wx.setCell ⟨g, i, none⟩ (.int .i64 (ptV c.villages order m i : Int))) := ⟨hSx.1.other (a := ⟨g, i, none⟩) (by show w.heap.size ≠ g; omega) _, hd.call hB2, hSx.2.2.other (by show g ≠ gl; exact hgl) _⟩
          obtain ⟨pv, hpv⟩ : ∃ pv, pv = ptV c.villages order m i := ⟨_, rfl⟩
          rw [← hpv] at hI2 hB2 hS2 ho ⊢
          clear hpv
          go_wp2_with fail
          go_roundw
          case rel => exact ⟨i + 1, by omega, by go_num, hI2, hS2, hB2⟩
          case measure => simp [intOf]; omega
    · obtain rfl : i = order.length := by omega
      go_wp2
      go_ret
      exact ⟨g, rfl, hgw, hIr, hBr⟩

end Go.Proofs.Ythchpoabncdicaa
