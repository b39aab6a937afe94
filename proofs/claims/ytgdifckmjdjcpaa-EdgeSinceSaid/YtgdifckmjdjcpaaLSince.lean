/- EdgeSince: what its walk hands back; conditions: the argument reads as a list of numbers. -/
import Derived.Test.YtgdifckmjdjcpaaLFined
import Derived.Test.YtgdifckmjdjcpaaSin
namespace Go.Proofs.Ytgdifckmjdjcpaa
open Go.RowKit

/-- The first years, so many points on. -/
def MP (q : Nat → Nat → Bool) (n y p : Nat) : List Int := (List.range 3).map fun i => if i < n then (if i < p then upY (q i) (y + 1) else upY (q i) y) else -1
theorem MP_len (q : Nat → Nat → Bool) (n y p : Nat) : (MP q n y p).length = 3 := by simp [MP]
theorem MP_at (q : Nat → Nat → Bool) {n y p i : Nat} (hi : i < n) (hp : p ≤ i) (h : i < (MP q n y p).length) : (MP q n y p)[i] = upY (q i) y := by
  simp only [MP, List.getElem_map, List.getElem_range]
  rw [if_pos hi, if_neg (by omega)]
theorem MP_get (q : Nat → Nat → Bool) {n y p i : Nat} (hi : i < n) (hp : p ≤ i) (hn : n ≤ 3) : (MP q n y p)[i]? = some (upY (q i) y) := by
  have h : i < (MP q n y p).length := by rw [MP_len]; omega
  rw [List.getElem?_eq_getElem h, MP_at q hi hp h]
theorem blk_get {w : World} {g j : Nat} {l : List Int} {a : Int} (h : IntBlk w g l) (ha : l[j]? = some a) : w.cell? ⟨g, j, none⟩ = some (.int .i64 a) := by
  obtain ⟨hj, e⟩ := List.getElem?_eq_some_iff.1 ha
  rw [h.cell j hj, e]
theorem MP_all (q : Nat → Nat → Bool) (n y : Nat) : MP q n y n = MP q n (y + 1) 0 := by
  unfold MP
  apply List.map_congr_left
  intro i _
  by_cases h : i < n
  · simp [h]
  · simp [h]
theorem MP_start (q : Nat → Nat → Bool) (n : Nat) : MP q n 0 0 = [-1, -1, -1] := by
  unfold MP
  have : ∀ i, (if i < n then (if i < 0 then upY (q i) (0 + 1) else upY (q i) 0) else (-1 : Int)) = -1 := fun i => by
    by_cases h : i < n
    · simp [h, upY]
    · simp [h]
  simp only [this]
  rfl
theorem MP_succ (q : Nat → Nat → Bool) {n y p : Nat} (hp : p < n) : MP q n y (p + 1) = if upY (q p) y < 0 ∧ q p y = true then (MP q n y p).set p (y : Int) else MP q n y p := by
  have hu : upY (q p) (y + 1) = if upY (q p) y < 0 ∧ q p y = true then (y : Int) else upY (q p) y := rfl
  have other : ∀ i, i ≠ p → (if i < n then (if i < p + 1 then upY (q i) (y + 1) else upY (q i) y) else (-1 : Int)) = if i < n then (if i < p then upY (q i) (y + 1) else upY (q i) y) else -1 := fun i hip => by
    by_cases h : i < p
    · rw [if_pos h, if_pos (show i < p + 1 by omega)]
    · rw [if_neg h, if_neg (show ¬ i < p + 1 by omega)]
  have own : (if p < n then (if p < p + 1 then upY (q p) (y + 1) else upY (q p) y) else (-1 : Int)) = upY (q p) (y + 1) := by rw [if_pos hp, if_pos (by omega)]
  by_cases hc : upY (q p) y < 0 ∧ q p y = true
  · rw [if_pos hc]
    refine List.ext_getElem (by rw [List.length_set, MP_len, MP_len]) fun i h1 h2 => ?_
    rw [List.getElem_set]
    simp only [MP, List.getElem_map, List.getElem_range]
    by_cases hip : p = i
    · subst hip
      rw [if_pos (rfl : p = p), own, hu, if_pos hc]
    · rw [if_neg hip]
      exact other i (fun e => hip e.symm)
  · rw [if_neg hc]
    refine List.ext_getElem (by rw [MP_len, MP_len]) fun i h1 h2 => ?_
    simp only [MP, List.getElem_map, List.getElem_range]
    by_cases hip : p = i
    · subst hip
      rw [own, hu, if_neg hc, if_pos hp, if_neg (Nat.lt_irrefl p)]
    · exact other i (fun e => hip e.symm)

theorem encr_none {x : Edg} (hx : x.Ok) {l : List Fu} (hf : furX x.points l = 0) (hb : bndF x = none) {y : Int} (hy : 0 ≤ y ∧ y ≤ 30) : encrX x l y = ([], 12) := by
  unfold encrX
  rw [taken_none hx hf hb hy]
  rfl
theorem encr_some {x : Edg} (hx : x.Ok) {l : List Fu} (hf : furX x.points l = 0) {s : Bs} (hb : bndF x = some s) {y : Int} (hy : 0 ≤ y ∧ y ≤ 30) : encrX x l y = ((tkL l s y x.n).map verdE, 0) := by
  unfold encrX
  rw [taken_some hx hf hb hy]
  rfl
theorem since_none {x : Edg} (hx : x.Ok) {l : List Fu} (hf : furX x.points l = 0) (hb : bndF x = none) : sinceX x l 0 = ((0, 0), 12) := by
  have hp : ptB x 0 = true := by unfold ptB; exact btwB_iff.2 (by have := hx.p; omega)
  unfold sinceX
  rw [if_neg (not_not_intro (both_ok hx hf)), if_neg (by rw [hp]; decide), hb]
theorem since_some {x : Edg} (hx : x.Ok) {l : List Fu} (hf : furX x.points l = 0) {s : Bs} (hb : bndF x = some s) {p : Nat} (hp : (p : Int) ≤ x.points - 1) : sinceX x l (p : Int) = ((upY (qM l s p) 31, upY (qL l s p) 31), 0) := by
  have hpb : ptB x (p : Int) = true := by unfold ptB; exact btwB_iff.2 ⟨by omega, hp⟩
  unfold sinceX
  rw [if_neg (not_not_intro (both_ok hx hf)), if_neg (by rw [hpb]; decide), hb, ← years_meet, ← years_meet]
  rfl

set_option maxRecDepth 100000 in
set_option maxHeartbeats 4000000 in
theorem edgeSince_c {A : Nat → Prop} {w : World} {v : Value} {l : List Int} (h : Ints A w v l) : Calls Try.prog 15 #[v] w fun e w' => e = .returned (.bool true) ∧ Below w.heap.size w w' := by
  obtain ⟨a0, c0, rfl, _, _⟩ := h.shape
  go_enter Try.func15, Try.ntmps15
  go_wp2_with fail
  refine (newHand_c h).mono ?_
  rintro e w1 ⟨rfl, hH1, hB1⟩
  have hsz1 := hH1.lt
  go_wp2_with fail
  refine (edgeOf_c hH1 (by omega) (pts := 3) (cl := 3) (by omega) (by omega)).mono ?_
  rintro e w2 ⟨⟨x, vx, rfl, hx, hx4, hx7, hO2⟩, ⟨k2, hk2, hH2⟩, hG2⟩
  have hB2 := bhand hB1 hG2 (Nat.le_refl _)
  obtain ⟨ax, cx, rfl⟩ := own_slice hO2
  obtain ⟨w3, hw3⟩ : ∃ w3, w3 = w2.alloc (.cells #[.int .i64 x.points, .int .i64 x.bend, .slice ax x.claims.length cx] 24) := ⟨_, rfl⟩
  obtain ⟨bx, hbx⟩ : ∃ b, b = w2.heap.size := ⟨_, rfl⟩
  have hX3 : Blk bx #[.int .i64 x.points, .int .i64 x.bend, .slice ax x.claims.length cx] 24 w3 := by rw [hw3, hbx]; exact Blk.new _ _ _
  have hB3 : Below w.heap.size w w3 := by rw [hw3]; exact bal2 hB2
  have hC3 : ClsM (fun q => w1.heap.size ≤ q) w3 (.slice ax x.claims.length cx) x.claims := by rw [hw3]; exact (hO2.cls).call ((Below.refl _ _).alloc (Nat.le_refl _) _)
  have hH3 : Hnd w3 w.heap.size k2 := by rw [hw3]; exact hH2.call ((Below.refl _ _).alloc (Nat.le_refl _) _)
  have hbw : w.heap.size < bx := by rw [hbx]; have := hG2.size; omega
  go_upto_region 3 with fail
  rw [← hw3, ← hbx]
  clear hw3 hbx hO2 hG2 hH1 hB1 hB2 hH2
  have c0 := hX3.cell 0
  have c1 := hX3.cell 1
  have c2 := hX3.cell 2
  go_wp2_with fail
  refine (furrowsOf_c hH3 (by omega) hx.p ax x.claims.length cx).mono ?_
  rintro e w4 ⟨⟨L, vf, rfl, hfx, hF4⟩, ⟨k4, hk4, hH4⟩, hG4⟩
  have hX4 := hX3.hand hG4 (by omega)
  have hC4 := Elems.only hC3 hG4 (by omega)
  have hB4 := bhand hB3 hG4 (Nat.le_refl _)
  obtain ⟨af, cf, rfl⟩ := own_slice hF4
  have hF4 : FusM (fun q => w3.heap.size ≤ q) w4 (.slice af L.length cf) L := hF4.fus
  have hz34 : w.heap.size < w3.heap.size := by have := hX3.lt; omega
  clear c0 c1 c2 hX3 hC3 hB3 hG4 hH3
  obtain ⟨w5, hw5⟩ : ∃ w5, w5 = (w4.alloc (.cells #[.int .i64 (-1), .int .i64 (-1), .int .i64 (-1)] 3)).alloc (.cells #[.int .i64 (-1), .int .i64 (-1), .int .i64 (-1)] 3) := ⟨_, rfl⟩
  obtain ⟨g6, hg6⟩ : ∃ b, b = w4.heap.size := ⟨_, rfl⟩
  have hM5 : IntBlk w5 g6 [-1, -1, -1] := by rw [hw5, hg6]; exact (Blk.new w4 _ _).alloc _
  have hS5 : IntBlk w5 (g6 + 1) [-1, -1, -1] := by rw [hw5, hg6]; exact blk_at (by simp) _ _
  have hs5 : Below w4.heap.size w4 w5 := by rw [hw5]; exact bal2 ((Below.refl _ w4).alloc (Nat.le_refl _) _)
  have hzg : w4.heap.size ≤ g6 := Nat.le_of_eq hg6.symm
  have hzg2 : g6 ≤ w4.heap.size := Nat.le_of_eq hg6
  have hX5 := hX4.call hs5
  have hC5 : ClsM (fun q => q < g6) w5 (.slice ax x.claims.length cx) x.claims := (hC4.wide fun q _ hq => by omega).call hs5
  have hF5 : FusM (fun q => q < g6) w5 (.slice af L.length cf) L := (hF4.wide fun q _ hq => by omega).call hs5
  have hB5 := bnx hB4 hs5
  have hlx : bx < g6 := by have := hX4.lt; omega
  have hwg : w.heap.size ≤ g6 := by have := hB4.size; omega
  go_upto_region 5 with fail
  rw [← hw5, ← hg6]
  clear hw5 hg6 hs5 hX4 hC4 hF4 hB4 hH4 hzg hzg2
  rcases bnd_cases hx with ⟨-, hbn, -⟩ | ⟨s, hs, hbn, -⟩
  · have HE := Lib.hid (encr_none hx hfx hbn (y := 0) (by omega))
    have HS := Lib.hid (since_none hx hfx hbn)
    have c0 := hX5.cell 0
    have c1 := hX5.cell 1
    have c2 := hX5.cell 2
    have hcon := encr_c hC5 hF5 0
    rw [HE.out] at hcon
    have HCON := Lib.hid hcon
    clear hcon
    go_wp2_with fail
    refine wp_loop_rounds 1 ?_
    rw [rounds_succ]
    go_wp2_with fail
    refine HCON.out.mono ?_
    rintro e w6 ⟨v6, rfl, hV6, hS6⟩
    have hX6 := hX5.call hS6
    clear c0 c1 c2
    have c0 := hX6.cell 0
    have c1 := hX6.cell 1
    have c2 := hX6.cell 2
    have hcon := since_c (hC5.call hS6) (hF5.call hS6) 0
    rw [HS.out] at hcon
    have HCON2 := Lib.hid hcon
    clear hcon
    go_wp2_with fail
    refine HCON2.out.mono ?_
    rintro e w7 ⟨rfl, hS7⟩
    go_wp2_with fail
    refine (surveyed_c _).mono ?_
    rintro e w8 ⟨rfl, hS8⟩
    go_wp2_with fail
    go_ret
    exact ⟨rfl, bnx (bnx (bnx hB5 hS6) hS7) hS8⟩
  · obtain ⟨n, hn⟩ : ∃ n, n = x.n := ⟨_, rfl⟩
    have hpn : x.points = (n : Int) := by have := hx.p; rw [hn]; unfold Edg.n; omega
    have hn3 : 1 ≤ n ∧ n ≤ 3 := by have := hx.p; omega
    have HES := Lib.hid (show ∀ y : Int, 0 ≤ y ∧ y ≤ 30 → encrX x L y = ((tkL L s y n).map verdE, 0) from fun y hy => by rw [encr_some hx hfx hbn hy, ← hn])
    have HSI := Lib.hid (show ∀ p : Nat, p < n → sinceX x L (p : Int) = ((upY (qM L s p) 31, upY (qL L s p) 31), 0) from fun p hp => since_some hx hfx hbn (by omega))
    have HTE := Lib.hid (show ∀ (y : Int) (p : Nat), p < n → 0 ≤ (tkE L s p y).1 ∧ (tkE L s p y).1 ≤ (tkE L s p y).2 from fun y p hp => tkE_le hs L (by rw [← hn]; exact hp) y)
    have HPN := Lib.hid hpn
    rw [hpn] at hX5
    have ce : ∀ (w' : World) (vx vf : Value) (A1 A2 : Nat → Prop) (_ : ClsM A1 w' vx x.claims) (_ : FusM A2 w' vf L) (y : Nat), y ≤ 30 → Calls Try.prog 50 #[.agg #[.int .i64 (n : Int), .int .i64 x.bend, vx], vf, .int .i64 (y : Int)] w' fun e w'' => ∃ v', e = .returned (.tuple #[v', .int .i64 0]) ∧ Ints (fun k => w'.heap.size ≤ k) w'' v' ((tkL L s y n).map verdE) ∧ Below w'.heap.size w' w'' := fun _ _ _ _ _ h1 h2 y hy => by
      have := encr_c h1 h2 (y : Int)
      rw [HES.out y (by omega), hpn] at this
      exact this
    have CE := Lib.hid ce
    have cs : ∀ (w' : World) (vx vf : Value) (A1 A2 : Nat → Prop) (_ : ClsM A1 w' vx x.claims) (_ : FusM A2 w' vf L) (p : Nat), p < n → Calls Try.prog 61 #[.agg #[.int .i64 (n : Int), .int .i64 x.bend, vx], vf, .int .i64 (p : Int)] w' fun e w'' => e = .returned (.tuple #[.int .i64 (upY (qM L s p) 31), .int .i64 (upY (qL L s p) 31), .int .i64 0]) ∧ Below w'.heap.size w' w'' := fun _ _ _ _ _ h1 h2 p hp => by
      have := since_c h1 h2 (p : Int)
      rw [HSI.out p hp, hpn] at this
      exact this
    have CS := Lib.hid cs
    clear hn hpn ce cs
    go_wp2_with fail
    go_loopw [8] (fun vy wr => ∃ y : Nat, y ≤ 31 ∧ vy = .int .i64 y ∧ IntBlk wr g6 (MP (qM L s) n y 0) ∧ IntBlk wr (g6 + 1) (MP (qL L s) n y 0) ∧ Keep (fun q => q = g6 ∨ q = g6 + 1) w5 wr) (fun vy _ => 31 - (intOf vy).toNat)
    case atStart => exact ⟨0, by omega, rfl, by rw [MP_start]; exact hM5, by rw [MP_start]; exact hS5, Keep.refl _ _⟩
    case round =>
      obtain ⟨y, hy, rfl, hM, hS, hK⟩ := hrel
      clear hM5 hS5
      have hXr := hX5.keep (hK.block _ hX5.lt (by omega))
      have hCr := hC5.step hK.size fun q hq hl => hK.block q hl (by omega)
      have hFr := hF5.step hK.size fun q hq hl => hK.block q hl (by omega)
      by_cases hly : y < 31
      · have c0 := hXr.cell 0
        have c1 := hXr.cell 1
        have c2 := hXr.cell 2
        have hcon := CE.out _ _ _ _ _ hCr hFr y (by omega)
        have HCON := Lib.hid hcon
        clear hcon
        go_wp2_with fail
        refine HCON.out.mono ?_
        rintro e w6 ⟨v6, rfl, hV6, hS6⟩
        have hvl : ((tkL L s y n).map verdE).length = n := by rw [List.length_map, tkL_len]
        have hvat0 : ∀ p, p < n → ((tkL L s y n).map verdE)[p]? = some (verdE (tkE L s p y)) := fun p hp => by simp [tkL, hp]
        obtain ⟨V, hV⟩ : ∃ V, V = (tkL L s y n).map verdE := ⟨_, rfl⟩
        rw [← hV] at hV6 hvl
        simp only [← hV] at hvat0
        have HVA := Lib.hid hvat0
        have hv1 : V.length ≤ n := Nat.le_of_eq hvl
        have hv2 : n ≤ V.length := Nat.le_of_eq hvl.symm
        have hd0 : ((V.length : Int) != (n : Int)) = false := by simp; omega
        have hgr : g6 + 1 < wr.heap.size := hS.lt
        have hV6 := hV6.wide (A' := fun q => q ≠ g6 ∧ q ≠ g6 + 1) fun q hq _ => by omega
        have hM6 := hM.call hS6
        have hS6' := hS.call hS6
        have hX6 := hXr.call hS6
        obtain ⟨av, cv, rfl, _, _⟩ := hV6.shape
        have hK6 := hK.trans (Keep.call hS6)
        clear c0 c1 c2 hV hvl hvat0 hM hS hK HCON
        have c0 := hX6.cell 0
        go_wp2_with fail
        clear c0
        go_loopw [14] (fun vp wp => ∃ p : Nat, p ≤ n ∧ vp = .int .i64 p ∧ IntBlk wp g6 (MP (qM L s) n y p) ∧ IntBlk wp (g6 + 1) (MP (qL L s) n y p) ∧ Keep (fun q => q = g6 ∨ q = g6 + 1) w6 wp) (fun vp _ => n - (intOf vp).toNat)
        case atStart => exact ⟨0, Nat.zero_le _, rfl, hM6, hS6', Keep.refl _ _⟩
        case round =>
          rename World => wp
          obtain ⟨p, hp, rfl, hM, hS, hKp⟩ := hrel
          clear hM6 hS6'
          have hXp := hX6.keep (hKp.block _ hX6.lt (by omega))
          have c0 := hXp.cell 0
          by_cases hltp : p < n
          · have hVp := hV6.step hKp.size fun q hq hl => hKp.block q hl (by omega)
            obtain ⟨gv, ov, rfl, _, _, _⟩ := hVp.addr (by omega)
            have hp3 : p < 3 := by omega
            have hva := HVA.out p hltp
            rw [List.getElem?_eq_getElem (by omega)] at hva
            injection hva with hvat
            have hml := MP_len (qM L s) n y p
            have hsl := MP_len (qL L s) n y p
            have hmat := MP_get (qM L s) (n := n) (y := y) hltp (Nat.le_refl p) hn3.2
            have hsat := MP_get (qL L s) (n := n) (y := y) hltp (Nat.le_refl p) hn3.2
            have HMS := Lib.hid (MP_succ (qM L s) (y := y) hltp)
            have HSS := Lib.hid (MP_succ (qL L s) (y := y) hltp)
            have hte := HTE.out y p hltp
            have hqm : qM L s p y = decide ((tkE L s p y).2 > 0) := rfl
            have hql : qL L s p y = decide ((tkE L s p y).1 > 0) := rfl
            generalize qM L s p y = bm at hqm HMS
            generalize qL L s p y = bl at hql HSS
            generalize MP (qM L s) n y p = MM at hM hml hmat HMS
            generalize MP (qL L s) n y p = SS at hS hsl hsat HSS
            generalize upY (qM L s p) y = m at hmat HMS
            generalize upY (qL L s p) y = sv at hsat HSS
            have hml1 : MM.length ≤ 3 := Nat.le_of_eq hml
            have hml2 : 3 ≤ MM.length := Nat.le_of_eq hml.symm
            have hsl1 : SS.length ≤ 3 := Nat.le_of_eq hsl
            have hsl2 : 3 ≤ SS.length := Nat.le_of_eq hsl.symm
            have m0 := blk_get hM hmat
            have s0 := blk_get hS hsat
            have v0 := hVp.cell p (by omega)
            rw [hvat] at v0
            have fm := hM.free p
            have fs := hS.free p
            generalize tkE L s p y = tk at hte hqm hql hvat v0
            have hcase : (verdE tk = 1 ∧ bm = true ∧ bl = true) ∨ (verdE tk = 2 ∧ bm = false ∧ bl = false) ∨ (verdE tk = 3 ∧ bm = true ∧ bl = false) := by
              unfold verdE
              by_cases h1 : tk.1 > 0
              · exact .inl ⟨if_pos h1, by rw [hqm]; exact decide_eq_true (by omega), by rw [hql]; exact decide_eq_true h1⟩
              · by_cases h2 : tk.2 = 0
                · exact .inr (.inl ⟨by rw [if_neg h1, if_pos h2], by rw [hqm]; exact decide_eq_false (by omega), by rw [hql]; exact decide_eq_false h1⟩)
                · exact .inr (.inr ⟨by rw [if_neg h1, if_neg h2], by rw [hqm]; exact decide_eq_true (by omega), by rw [hql]; exact decide_eq_false h1⟩)
            generalize verdE tk = vd at hcase hvat v0
            clear hqm hql hml hsl
            rcases hcase with ⟨rfl, rfl, rfl⟩ | ⟨rfl, rfl, rfl⟩ | ⟨rfl, rfl, rfl⟩
            · by_cases hm : m < 0
              · by_cases hs0 : sv < 0
                · have hMMwq := hM.set p (y : Int)
                  have hSSwq := hS.other (a := ⟨g6, p, none⟩) (by show g6 ≠ g6 + 1; omega) (.int .i64 (y : Int))
                  have hKKwq := hKp.trans (Keep.setCell (own := fun q => q = g6 ∨ q = g6 + 1) wp ⟨g6, p, none⟩ (.int .i64 (y : Int)) (.inl rfl))
                  have hVVwq := hVp.step (w' := wp.setCell ⟨g6, p, none⟩ (.int .i64 (y : Int))) (by simp [World.setCell]) fun q hq _ => Below.heap_setCell _ _ _ _ (show q ≠ g6 by omega)
                  go_upto_region 19 with fail
                  generalize wp.setCell ⟨g6, p, none⟩ (.int .i64 (y : Int)) = wq at hMMwq hSSwq hKKwq hVVwq ⊢
                  clear v0 m0 s0 fm fs
                  have v0 := hVVwq.cell p (by omega)
                  rw [hvat] at v0
                  have s0 := blk_get hSSwq hsat
                  have fs := hSSwq.free p
                  have hS3 := hSSwq.set p (y : Int)
                  have hM3 := hMMwq.other (a := ⟨g6 + 1, p, none⟩) (by show g6 + 1 ≠ g6; omega) (.int .i64 (y : Int))
                  have hK3 := hKKwq.trans (Keep.setCell (own := fun q => q = g6 ∨ q = g6 + 1) wq ⟨g6 + 1, p, none⟩ (.int .i64 (y : Int)) (.inr rfl))
                  go_wp2_with fail
                  go_roundw
                  case rel => exact ⟨p + 1, by omega, by go_num, by rw [HMS.out, if_pos ⟨hm, rfl⟩]; exact hM3, by rw [HSS.out, if_pos ⟨hs0, rfl⟩]; exact hS3, hK3⟩
                  case measure => simp [intOf]; omega
                · have hMMwq := hM.set p (y : Int)
                  have hSSwq := hS.other (a := ⟨g6, p, none⟩) (by show g6 ≠ g6 + 1; omega) (.int .i64 (y : Int))
                  have hKKwq := hKp.trans (Keep.setCell (own := fun q => q = g6 ∨ q = g6 + 1) wp ⟨g6, p, none⟩ (.int .i64 (y : Int)) (.inl rfl))
                  have hVVwq := hVp.step (w' := wp.setCell ⟨g6, p, none⟩ (.int .i64 (y : Int))) (by simp [World.setCell]) fun q hq _ => Below.heap_setCell _ _ _ _ (show q ≠ g6 by omega)
                  go_upto_region 19 with fail
                  generalize wp.setCell ⟨g6, p, none⟩ (.int .i64 (y : Int)) = wq at hMMwq hSSwq hKKwq hVVwq ⊢
                  clear v0 m0 s0 fm fs
                  have v0 := hVVwq.cell p (by omega)
                  rw [hvat] at v0
                  have s0 := blk_get hSSwq hsat
                  have fs := hSSwq.free p
                  go_wp2_with fail
                  go_roundw
                  case rel => exact ⟨p + 1, by omega, by go_num, by rw [HMS.out, if_pos ⟨hm, rfl⟩]; exact hMMwq, by rw [HSS.out, if_neg (fun h => hs0 h.1)]; exact hSSwq, hKKwq⟩
                  case measure => simp [intOf]; omega
              · by_cases hs0 : sv < 0
                · have hMMwp := hM
                  have hSSwp := hS
                  have hKKwp := hKp
                  have hS3 := hSSwp.set p (y : Int)
                  have hM3 := hMMwp.other (a := ⟨g6 + 1, p, none⟩) (by show g6 + 1 ≠ g6; omega) (.int .i64 (y : Int))
                  have hK3 := hKKwp.trans (Keep.setCell (own := fun q => q = g6 ∨ q = g6 + 1) wp ⟨g6 + 1, p, none⟩ (.int .i64 (y : Int)) (.inr rfl))
                  go_wp2_with fail
                  go_roundw
                  case rel => exact ⟨p + 1, by omega, by go_num, by rw [HMS.out, if_neg (fun h => hm h.1)]; exact hM3, by rw [HSS.out, if_pos ⟨hs0, rfl⟩]; exact hS3, hK3⟩
                  case measure => simp [intOf]; omega
                · have hMMwp := hM
                  have hSSwp := hS
                  have hKKwp := hKp
                  go_wp2_with fail
                  go_roundw
                  case rel => exact ⟨p + 1, by omega, by go_num, by rw [HMS.out, if_neg (fun h => hm h.1)]; exact hMMwp, by rw [HSS.out, if_neg (fun h => hs0 h.1)]; exact hSSwp, hKKwp⟩
                  case measure => simp [intOf]; omega
            · have hMMwp := hM
              have hSSwp := hS
              have hKKwp := hKp
              go_wp2_with fail
              go_roundw
              case rel => exact ⟨p + 1, by omega, by go_num, by rw [HMS.out, if_neg (fun h => by cases h.2)]; exact hMMwp, by rw [HSS.out, if_neg (fun h => by cases h.2)]; exact hSSwp, hKKwp⟩
              case measure => simp [intOf]; omega
            · by_cases hm : m < 0
              · have hMMwq := hM.set p (y : Int)
                have hSSwq := hS.other (a := ⟨g6, p, none⟩) (by show g6 ≠ g6 + 1; omega) (.int .i64 (y : Int))
                have hKKwq := hKp.trans (Keep.setCell (own := fun q => q = g6 ∨ q = g6 + 1) wp ⟨g6, p, none⟩ (.int .i64 (y : Int)) (.inl rfl))
                have hVVwq := hVp.step (w' := wp.setCell ⟨g6, p, none⟩ (.int .i64 (y : Int))) (by simp [World.setCell]) fun q hq _ => Below.heap_setCell _ _ _ _ (show q ≠ g6 by omega)
                go_upto_region 19 with fail
                generalize wp.setCell ⟨g6, p, none⟩ (.int .i64 (y : Int)) = wq at hMMwq hSSwq hKKwq hVVwq ⊢
                clear v0 m0 s0 fm fs
                have v0 := hVVwq.cell p (by omega)
                rw [hvat] at v0
                have s0 := blk_get hSSwq hsat
                have fs := hSSwq.free p
                go_wp2_with fail
                go_roundw
                case rel => exact ⟨p + 1, by omega, by go_num, by rw [HMS.out, if_pos ⟨hm, rfl⟩]; exact hMMwq, by rw [HSS.out, if_neg (fun h => by cases h.2)]; exact hSSwq, hKKwq⟩
                case measure => simp [intOf]; omega
              · have hMMwp := hM
                have hSSwp := hS
                have hKKwp := hKp
                go_wp2_with fail
                go_roundw
                case rel => exact ⟨p + 1, by omega, by go_num, by rw [HMS.out, if_neg (fun h => hm h.1)]; exact hMMwp, by rw [HSS.out, if_neg (fun h => by cases h.2)]; exact hSSwp, hKKwp⟩
                case measure => simp [intOf]; omega
          · obtain rfl : n = p := by omega
            go_wp2_with fail
            go_roundw
            case rel => exact ⟨y + 1, by omega, by go_num, by rw [← MP_all]; exact hM, by rw [← MP_all]; exact hS, hK6.trans hKp⟩
            case measure => simp [intOf]; omega
      · obtain rfl : y = 31 := by omega
        rw [show ((31 : Nat) : Int) = 31 from rfl]
        have c0 := hXr.cell 0
        go_wp2_with fail
        clear c0
        go_loopw [15] (fun vp wp => ∃ p : Nat, p ≤ n ∧ vp = .int .i64 p ∧ Below wr.heap.size wr wp) (fun vp _ => n - (intOf vp).toNat)
        case atStart => exact ⟨0, Nat.zero_le _, rfl, Below.refl _ _⟩
        case round =>
          rename World => wp
          obtain ⟨p, hp, rfl, hBp⟩ := hrel
          have hXp := hXr.call hBp
          have c0 := hXp.cell 0
          by_cases hltp : p < n
          · have c1 := hXp.cell 1
            have c2 := hXp.cell 2
            have hp3 : p < 3 := by omega
            have hcon := CS.out _ _ _ _ _ (hCr.call hBp) (hFr.call hBp) p hltp
            have hml := MP_len (qM L s) n 31 0
            have hsl := MP_len (qL L s) n 31 0
            have hmat := MP_get (qM L s) (n := n) (y := 31) hltp (Nat.zero_le p) hn3.2
            have hsat := MP_get (qL L s) (n := n) (y := 31) hltp (Nat.zero_le p) hn3.2
            have hMp := hM.call hBp
            have hSp := hS.call hBp
            generalize MP (qM L s) n 31 0 = MM at hMp hml hmat
            generalize MP (qL L s) n 31 0 = SS at hSp hsl hsat
            generalize upY (qM L s p) 31 = m at hmat hcon
            generalize upY (qL L s p) 31 = sv at hsat hcon
            have HCON := Lib.hid hcon
            clear hcon
            go_wp2_with fail
            refine HCON.out.mono ?_
            rintro e w7 ⟨rfl, hS7⟩
            have m0 := blk_get (hMp.call hS7) hmat
            have s0 := blk_get (hSp.call hS7) hsat
            have hB7 := bnx hBp hS7
            clear hml hsl hmat hsat
            go_wp2_with fail
            go_roundw
            case rel => exact ⟨p + 1, by omega, by go_num, hB7⟩
            case measure => simp [intOf]; omega
          · obtain rfl : n = p := by omega
            go_wp2_with fail
            refine (surveyed_c _).mono ?_
            rintro e w8 ⟨rfl, hS8⟩
            go_wp2_with fail
            go_ret
            have hBk : Below w.heap.size w wr := hB5.trans (hK.below (B := w.heap.size) hB5.size fun q hq h => by omega)
            exact ⟨rfl, bnx (bnx hBk hBp) hS8⟩

end Go.Proofs.Ytgdifckmjdjcpaa
