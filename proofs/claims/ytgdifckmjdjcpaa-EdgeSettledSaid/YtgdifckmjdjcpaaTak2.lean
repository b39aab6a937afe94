/- Contracts of Taken and Encroached (edge); conditions: claims and furrows read as lists. -/
import Derived.Test.YtgdifckmjdjcpaaTak1
import Derived.Test.YtgdifckmjdjcpaaBnd
namespace Go.Proofs.Ytgdifckmjdjcpaa
open Go.RowKit

theorem bnd_reach {x : Edg} {s : Bs} (h : IsBnd x s) {p : Nat} (hp : p < x.n) : 0 ≤ gl s p ∧ gl s p ≤ gh s p ∧ gh s p ≤ 9 := by
  have h1 := h.lo.reach p hp
  have h2 := h.hi.reach p hp
  have h3 := h.all _ h.lo p (by rw [h.len]; exact hp)
  rw [atL_fst] at h1 h3
  rw [atL_snd] at h2
  omega
theorem Try.info52 : (Try.prog.info? 52).map (fun i => (i.zero, i.size, i.bytes)) = some (some (.agg #[.int .i64 0, .int .i64 0]), 2, 16) := by kernel_rfl
theorem rcells_one' (r : Int × Int) : ∀ u ∈ rcells r, u.oneCell' = true := rcells_one r
theorem rgs_snoc (l : List (Int × Int)) (c : Int × Int) : (l ++ [c]).flatMap rcells = l.flatMap rcells ++ rcells c := by simp
theorem Own.rgs {B : Nat} {w : World} {e : TypeId} {v : Value} {n : Nat} {l : List (Int × Int)} (h : Own B w e 2 v n (l.flatMap rcells)) (hl : l.length = n) : RgsM (fun k => B ≤ k) w v l := by
  subst hl
  exact Own.arr h
theorem rgs_nil (A : Nat → Prop) (w : World) : RgsM A w (.slice none 0 0) [] := ⟨none, 0, rfl, Nat.le_refl _, ⟨by unfold maxLen; omega, fun _ => rfl⟩, .inl rfl⟩
def tkL (l : List Fu) (s : Bs) (y : Int) (k : Nat) : List (Int × Int) := (List.range k).map fun p => tkE l s p y
theorem tkL_succ (l : List Fu) (s : Bs) (y : Int) (k : Nat) : tkL l s y (k + 1) = tkL l s y k ++ [tkE l s k y] := by
  unfold tkL
  rw [List.range_succ, List.map_append]
  rfl
theorem tkL_len (l : List Fu) (s : Bs) (y : Int) (k : Nat) : (tkL l s y k).length = k := by simp [tkL]
theorem furX_facts {P : Int} {l : List Fu} (h : furX P l = 0) : l.length ≤ 8 ∧ OneEach l ∧ ∀ f ∈ l, 0 ≤ f.off ∧ f.off ≤ 9 := by
  obtain ⟨h1, h2, h3⟩ := furX_zero.1 h
  exact ⟨h1, h3, fun f hf => (h2 f hf).2.2⟩
theorem both_zero {x : Edg} {l : List Fu} (h : bothX x l = 0) : x.Ok ∧ furX x.points l = 0 := by
  unfold bothX at h
  by_cases hc : checkX x = 0
  · rw [if_neg (not_not_intro hc)] at h
    exact ⟨checkX_zero.1 hc, h⟩
  · rw [if_pos hc] at h
    exact absurd h hc

set_option maxRecDepth 100000 in
set_option maxHeartbeats 2000000 in
theorem takens_c {A A' : Nat → Prop} {w : World} {x : Edg} {vx v : Value} {l : List Fu} (hx : ClsM A w vx x.claims) (h : FusM A' w v l) (y : Int) :
    Calls Try.prog 49 #[.agg #[.int .i64 x.points, .int .i64 x.bend, vx], v, .int .i64 y] w fun e w' => ∃ v', e = .returned (.tuple #[v', .int .i64 (takenX x l y).2]) ∧ RgsM (fun k => w.heap.size ≤ k) w' v' (takenX x l y).1 ∧ Below w.heap.size w w' := by
  obtain ⟨ax, cx, rfl, _, _⟩ := hx.shape
  have hsh := h.shape
  obtain ⟨w1, hw1⟩ : ∃ w1, w1 = w.alloc (.cells #[.int .i64 x.points, .int .i64 x.bend, .slice ax x.claims.length cx] 24) := ⟨_, rfl⟩
  obtain ⟨b0, hb0⟩ : ∃ b, b = w.heap.size := ⟨_, rfl⟩
  have hX1 : Blk b0 #[.int .i64 x.points, .int .i64 x.bend, .slice ax x.claims.length cx] 24 w1 := by rw [hw1, hb0]; exact blk_at rfl _ _
  have hB1 : Below w.heap.size w w1 := by rw [hw1]; exact (Below.refl _ w).alloc (Nat.le_refl _) _
  have hx1 := hx.call hB1
  have h1 := h.call hB1
  go_enter Try.func49, Try.ntmps49
  go_upto_region 1 with fail
  rw [← hw1, ← hb0]
  clear hw1 hb0
  have c0 := hX1.cell 0
  have c1 := hX1.cell 1
  have c2 := hX1.cell 2
  go_wp2_with fail
  clear c0 c1 c2
  refine (checked_c hx1 h1).mono ?_
  rintro e w2 ⟨rfl, hB2⟩
  have hX2 := hX1.call hB2
  have hx2 := hx1.call hB2
  have h2 := h1.call hB2
  by_cases hck : bothX x l = 0
  · have hb : (bothX x l != 0) = false := by rw [hck]; rfl
    obtain ⟨hok, hfx⟩ := both_zero hck
    obtain ⟨hf8, hf1, hfo⟩ := furX_facts hfx
    have HCK := Lib.hid hck
    clear hck hfx
    cases hy : btwB y 0 30 with
    | false =>
      have HE := Lib.hid (show takenX x l y = ([], 1) by unfold takenX; rw [if_neg (not_not_intro HCK.out), if_pos hy])
      go_wp2_with (go_at_call 80; refine (between_c _ _ _ _).mono ?_; rintro e w' ⟨rfl, rfl⟩)
      go_ret2
      rw [HE.out]
      exact ⟨_, rfl, rgs_nil _ _, bnx hB1 hB2⟩
    | true =>
      have c0 := hX2.cell 0
      have c1 := hX2.cell 1
      have c2 := hX2.cell 2
      go_wp2_with (go_at_call 80; refine (between_c _ _ _ _).mono ?_; rintro e w' ⟨rfl, rfl⟩)
      clear c0 c1 c2
      refine (bounds_c hx2 hok).mono ?_
      rintro e w3 ⟨v3, b3, rfl, hB3, (⟨rfl, hbn⟩ | ⟨rfl, s, g, hbs, rfl, hg, hE3⟩)⟩
      · have HE := Lib.hid (show takenX x l y = ([], 12) by unfold takenX; rw [if_neg (not_not_intro HCK.out), if_neg (by rw [hy]; decide), hbn])
        go_wp2_with fail
        go_ret2
        rw [HE.out]
        exact ⟨_, rfl, rgs_nil _ _, bnx (bnx hB1 hB2) hB3⟩
      · have HE := Lib.hid (show takenX x l y = (tkL l s y x.n, 0) by unfold takenX; rw [if_neg (not_not_intro HCK.out), if_neg (by rw [hy]; decide), hbs.eq]; rfl)
        have h3 := h2.call hB3
        obtain ⟨n, hn⟩ : ∃ n, n = x.n := ⟨_, rfl⟩
        have hn4 : n ≤ 4 := by have := hok.p; unfold Edg.n at hn; omega
        have hsl : s.length = n := by rw [hbs.len, hn]
        have HSL := Lib.hid hsl
        have hreach : ∀ p < n, 0 ≤ gl s p ∧ gl s p ≤ gh s p ∧ gh s p ≤ 9 := fun p hp => bnd_reach hbs (by rw [← hn]; exact hp)
        rw [← hn] at HE ⊢
        have hBa := bnx (bnx hB1 hB2) hB3
        clear hn hsl hX1 hX2 hx1 hx2 hB1 hB2 hB3
        go_wp2_with fail
        go_loopw [11, 32] (fun vo i wr => ∃ k : Nat, k ≤ n ∧ i = .int .i64 k ∧ Own w3.heap.size wr 52 2 vo k ((tkL l s y k).flatMap rcells) ∧ Below w3.heap.size w3 wr) (fun _ i _ => n - (intOf i).toNat)
        case atStart => exact ⟨0, Nat.zero_le _, rfl, Own.nil, Below.refl _ _⟩
        case round =>
          obtain ⟨k, hk, rfl, hO, hB⟩ := hrel
          have hsz := hB.size
          have hsa := hBa.size
          by_cases hlt : k < n
          · have hEr : EB g s wr := Blk.call hE3 hB
            have hgl := Blk.lt hEr
            have hks : k < s.length := by rw [HSL.out]; exact hlt
            obtain ⟨d0, d1⟩ := hEr.cells hks
            have hr := hreach k hlt
            have hTk := Lib.hid (tkL_succ l s y k)
            go_wp2_with fail
            refine (taken_c (h3.call hB) hf8 hf1 hfo (by omega) (by omega) (k : Int) y).mono ?_
            rintro e w5 ⟨rfl, hB5⟩
            have hTe := Lib.hid (show tkE l s k y = (tkF (newG (k : Int) y l) (gl s k), tkF (newG (k : Int) y l) (gh s k)) from rfl)
            generalize tkF (newG (k : Int) y l) (gl s k) = u at hTe ⊢
            generalize tkF (newG (k : Int) y l) (gh s k) = z at hTe ⊢
            have hO7 := Own.alloc (Own.alloc (hO.call hB5) (.cells #[.int .i64 u, .int .i64 z] 99)) (.cells #[.int .i64 u, .int .i64 z] 52)
            have hB7 := ((hB.trans (hB5.mono hsz)).alloc (by have := hB5.size; omega) (.cells #[.int .i64 u, .int .i64 z] 99)).alloc (by simp; have := hB5.size; omega) (.cells #[.int .i64 u, .int .i64 z] 52)
            have ha := Own.arr (own_lit (w5.alloc (.cells #[.int .i64 u, .int .i64 z] 99)) 52 2 #[.int .i64 u, .int .i64 z] 1 rfl (by omega))
            rw [World.size_alloc] at ha
            have hz5 := hB5.size
            go_wp2_with (at_builtin; refine wpList_append_arr rfl _ _ 37 rfl 52 _ 2 16 Try.underlying37 Try.info52 rfl (by decide) (by decide) (by simp; omega) hO7 rfl ha rfl rfl (rcells_one (u, z)) (by omega) ?_; intro v' w8 hown hT)
            go_roundw
            case rel => exact ⟨k + 1, by omega, by go_num, by rw [hTk.out, rgs_snoc, hTe.out]; exact hown, hT.below2 hO7 hB7 (by simp; omega) (Nat.le_refl _)⟩
            case measure => simp [intOf]; omega
          · obtain rfl : k = n := by omega
            go_wp2_with fail
            go_ret2
            rw [HE.out]
            exact ⟨_, rfl, (hO.rgs (tkL_len ..)).wide fun q hq _ => Nat.le_trans hsa hq, hBa.trans (hB.mono hBa.size)⟩
  · have hb : (bothX x l != 0) = true := by simpa using hck
    have HE := Lib.hid (show takenX x l y = ([], bothX x l) by unfold takenX; rw [if_pos hck])
    clear hck
    go_wp2_with fail
    go_ret2
    rw [HE.out]
    exact ⟨_, rfl, rgs_nil _ _, bnx hB1 hB2⟩

def verdL (l : List (Int × Int)) (k : Nat) : List Int := (l.take k).map verdE
theorem verdL_succ {l : List (Int × Int)} {k : Nat} (hk : k < l.length) : verdL l (k + 1) = verdL l k ++ [verdE l[k]] := by
  unfold verdL
  rw [List.take_succ_eq_append_getElem hk, List.map_append]
  rfl
theorem verdL_len {l : List (Int × Int)} {k : Nat} (hk : k ≤ l.length) : (verdL l k).length = k := by simp [verdL]; omega
theorem taken_len (x : Edg) (l : List Fu) (y : Int) : (takenX x l y).1.length ≤ x.n := by
  unfold takenX
  split
  · simp
  · split
    · simp
    · split <;> simp

set_option maxHeartbeats 2000000 in
theorem encr_c {A A' : Nat → Prop} {w : World} {x : Edg} {vx v : Value} {l : List Fu} (hx : ClsM A w vx x.claims) (h : FusM A' w v l) (y : Int) :
    Calls Try.prog 50 #[.agg #[.int .i64 x.points, .int .i64 x.bend, vx], v, .int .i64 y] w fun e w' => ∃ v', e = .returned (.tuple #[v', .int .i64 (encrX x l y).2]) ∧ Ints (fun k => w.heap.size ≤ k) w' v' (encrX x l y).1 ∧ Below w.heap.size w w' := by
  obtain ⟨ax, cx, rfl, _, _⟩ := hx.shape
  have hB1 : Below w.heap.size w (w.alloc (.cells #[.int .i64 x.points, .int .i64 x.bend, .slice ax x.claims.length cx] 24)) := (Below.refl _ w).alloc (Nat.le_refl _) _
  have hx1 := hx.call hB1
  have h1 := h.call hB1
  go_enter Try.func50, Try.ntmps50
  go_wp2_with fail
  refine (takens_c hx1 h1 y).mono ?_
  rintro e w2 ⟨v2, rfl, hR, hB2⟩
  by_cases hz : (takenX x l y).2 = 0
  · have hb : ((takenX x l y).2 != 0) = false := by rw [hz]; rfl
    have HE := Lib.hid (show encrX x l y = ((takenX x l y).1.map verdE, 0) by unfold encrX; rw [if_neg (not_not_intro hz)])
    have HZ := Lib.hid hz
    have hn4 : (takenX x l y).1.length ≤ 4 := by
      have h1 := taken_len x l y
      have h2 : bothX x l = 0 := by
        unfold takenX at hz
        by_cases hc : bothX x l = 0
        · exact hc
        · rw [if_pos hc] at hz; exact absurd hz hc
      have h3 := (both_zero h2).1.p
      unfold Edg.n at h1
      omega
    clear hz
    obtain ⟨R, hR0⟩ : ∃ R, R = (takenX x l y).1 := ⟨_, rfl⟩
    rw [← hR0] at hR HE hn4
    clear hR0
    obtain ⟨a2, c2, rfl, _, _⟩ := hR.shape
    have hBa := bnx hB1 hB2
    go_wp2_with fail
    go_loopw [10, 25] (fun vo i wr => ∃ k : Nat, k ≤ R.length ∧ i = .int .i64 k ∧ Own w2.heap.size wr 3 1 vo k (I64 (verdL R k)) ∧ Below w2.heap.size w2 wr) (fun _ i _ => R.length - (intOf i).toNat)
    case atStart => exact ⟨0, Nat.zero_le _, rfl, Own.nil, Below.refl _ _⟩
    case round =>
      obtain ⟨k, hk, rfl, hO, hB⟩ := hrel
      have hsz := hB.size
      have hsa := hBa.size
      by_cases hlt : k < R.length
      · obtain ⟨g, o, rfl, hA, hg⟩ := rgs_addr hR (by omega)
        obtain ⟨d0, d1⟩ := rgs_at (hR.call hB) k hlt
        have hV := Lib.hid (verdL_succ hlt)
        obtain ⟨r, hr⟩ : ∃ r, r = R[k] := ⟨_, rfl⟩
        rw [← hr] at d0 d1 hV
        clear hr
        have hB3 := hB.alloc hsz (.cells #[.int .i64 r.1, .int .i64 r.2] 52)
        go_wp2_with fail
        refine (verdict_c r.1 r.2 _).mono ?_
        rintro e w5 ⟨rfl, hB5⟩
        have hz5 := hB5.size
        simp only [World.size_alloc] at hz5
        have hO6 := Own.alloc ((Own.alloc hO (.cells #[.int .i64 r.1, .int .i64 r.2] 52)).call hB5) (.cells #[.int .i64 (verdE (r.1, r.2))] 3)
        have hB6 := (bnx hB3 hB5).alloc (by omega) (.cells #[.int .i64 (verdE (r.1, r.2))] 3)
        have ha := arr_one w5 3 (.int .i64 (verdE (r.1, r.2)))
        go_wp2_with (at_builtin; refine wpList_append_arr rfl _ _ 27 rfl 3 (.int .i64 0) 1 8 Try.underlying27 Try.info3 rfl (by decide) (by decide) (by simp; omega) hO6 rfl ha rfl rfl (one_int _) (by omega) ?_; intro v' w8 hown hT)
        go_roundw
        case rel => exact ⟨k + 1, by omega, by go_num, by rw [hV.out, I64_append]; exact hown, hT.below2 hO6 hB6 (by simp; omega) (Nat.le_refl _)⟩
        case measure => simp [intOf]; omega
      · obtain rfl : k = R.length := by omega
        go_wp2_with fail
        go_ret2
        rw [HE.out]
        have e1 : verdL R R.length = R.map verdE := by unfold verdL; rw [List.take_length]
        rw [e1] at hO
        exact ⟨_, rfl, hO.ints.wide fun q hq _ => Nat.le_trans hsa hq, hBa.trans (hB.mono hsa)⟩
  · have hb : ((takenX x l y).2 != 0) = true := by simpa using hz
    have HE := Lib.hid (show encrX x l y = ([], (takenX x l y).2) by unfold encrX; rw [if_pos hz])
    clear hz
    go_wp2_with fail
    go_ret2
    rw [HE.out]
    exact ⟨_, rfl, ⟨none, 0, rfl, Nat.le_refl _, ⟨by unfold maxLen; omega, fun _ => rfl⟩, .inl rfl⟩, bnx hB1 hB2⟩

end Go.Proofs.Ytgdifckmjdjcpaa
