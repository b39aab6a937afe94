/- Contracts of sorted, field, taken, verdict, checked (edge); conditions: at most eight furrows, no two of one point and year. -/
import Derived.Test.YtgdifckmjdjcpaaFld
import Derived.Test.YtgdifckmjdjcpaaEdgT9
namespace Go.Proofs.Ytgdifckmjdjcpaa
open Go.RowKit

theorem sorted_c {A : Nat → Prop} {w : World} {v : Value} {l : List Fu} (h : FusM A w v l) (hn : l.length ≤ 8) :
    Calls Try.prog 124 #[v, .func (.func 125) #[] #[]] w fun e w' => ∃ v' l', e = .returned v' ∧ (l.Perm l' ∧ l'.Pairwise fun f g => f.year ≤ g.year) ∧ FusM (fun k => w.heap.size ≤ k) w' v' l' ∧ Below w.heap.size w w' := by
  have hB1 := (Below.refl w.heap.size w).alloc (Nat.le_refl _) (.cells #[.func (.func 125) #[] #[]] 155)
  have hK1 : Blk w.heap.size #[.func (.func 125) #[] #[]] 155 (w.alloc (.cells #[.func (.func 125) #[] #[]] 155)) := Blk.new _ _ _
  have h1 := h.call hB1
  go_enter Try.func124, Try.ntmps124
  go_wp2_with fail
  refine (cloneF_c h1 (by omega)).mono ?_
  rintro e w2 ⟨v2, rfl, hO2, hB2⟩
  have hK2 := hK1.call hB2
  obtain ⟨a2, c2, rfl⟩ := own_slice hO2
  have hs1 : w.heap.size < (w.alloc (.cells #[.func (.func 125) #[] #[]] 155)).heap.size := by simp
  have HO2 := Lib.hid hO2
  clear hO2
  go_wp2_with fail
  refine (sortStable_c rfl hn HO2.out hK2 hs1).mono ?_
  rintro e w3 ⟨rfl, l', hl', hO3, hk3⟩
  go_wp2_with fail
  go_ret
  have hll : l'.length = l.length := hl'.1.length_eq.symm
  refine ⟨_, l', rfl, hl', ?_, hB1.trans ((hB2.mono (by omega)).trans (hk3.below (by have := hB2.size; omega) fun k hk => by omega))⟩
  have := Own.arr hO3
  rw [← hll] at this ⊢
  exact Arr.wide this fun k hk _ => by omega

def fldV : Option Fu → Int × Bool
  | none => (0, false)
  | some f => (f.off, true)
theorem fldV_snoc (p y : Int) {l : List Fu} {k : Nat} (hk : k < l.length) : lastF p y (l.take (k + 1)) = if mtch p y l[k] = true then some l[k] else lastF p y (l.take k) := by
  rw [List.take_succ_eq_append_getElem hk, lastF_snoc]

set_option maxHeartbeats 1000000 in
theorem field_c {A : Nat → Prop} {w : World} {v : Value} {l : List Fu} (h : FusM A w v l) (hn : l.length ≤ 8) (h1 : OneEach l) (p y : Int) :
    Calls Try.prog 110 #[v, .int .i64 p, .int .i64 y] w fun e w' => e = .returned (.tuple #[.int .i64 (fldV (newG p y l)).1, .bool (fldV (newG p y l)).2]) ∧ Below w.heap.size w w' := by
  go_enter Try.func110, Try.ntmps110
  go_wp2_with fail
  refine (sorted_c h hn).mono ?_
  rintro e w2 ⟨v2, l', rfl, hl', hF, hB2⟩
  have HN := Lib.hid (last_new h1 hl'.1 hl'.2 p y)
  clear hl'
  obtain ⟨a1, c1, rfl, hc1, hm1⟩ := hF.shape
  have n1 := hF.len
  go_wp2_with fail
  go_loopw [8, 9, 15] (fun va vb vi wr => ∃ k : Nat, k ≤ l'.length ∧ vi = .int .i64 k ∧ va = .int .i64 (fldV (lastF p y (l'.take k))).1 ∧ vb = .bool (fldV (lastF p y (l'.take k))).2 ∧ Below w2.heap.size w2 wr) (fun _ _ vi _ => l'.length - (intOf vi).toNat)
  case atStart => exact ⟨0, Nat.zero_le _, rfl, rfl, rfl, Below.refl _ _⟩
  case round =>
    obtain ⟨k, hk, rfl, rfl, rfl, hB⟩ := hrel
    by_cases hlt : k < l'.length
    · obtain ⟨g, o, rfl, hA, hg⟩ := fus_addr hF (by omega)
      obtain ⟨d0, d1, d2⟩ := fus_at (hF.call hB) k hlt
      have HS := Lib.hid (fldV_snoc p y hlt)
      obtain ⟨f, hf⟩ : ∃ f, f = l'[k] := ⟨_, rfl⟩
      rw [← hf] at d0 d1 d2 HS
      clear hf
      have hBx := hB.trans ((Below.refl wr.heap.size wr).alloc (Nat.le_refl _) (.cells #[.int .i64 f.point, .int .i64 f.year, .int .i64 f.off] 76) |>.mono hB.size)
      by_cases hp : f.point = p
      · have bp : (f.point == p) = true := by simpa using hp
        by_cases hy : f.year ≤ y
        · have by' : decide (f.year ≤ y) = true := decide_eq_true hy
          have HM := Lib.hid (show mtch p y f = true by unfold mtch; rw [decide_eq_true hp, by']; rfl)
          clear hp
          go_wp2_with fail
          go_roundw
          case rel => exact ⟨k + 1, by omega, by go_num, by rw [HS.out, if_pos HM.out]; rfl, by rw [HS.out, if_pos HM.out]; rfl, hBx⟩
          case measure => simp [intOf]; omega
        · have by' : decide (f.year ≤ y) = false := decide_eq_false hy
          have HM := Lib.hid (show ¬ mtch p y f = true by unfold mtch; rw [by']; simp)
          clear hp
          go_wp2_with fail
          go_roundw
          case rel => exact ⟨k + 1, by omega, by go_num, by rw [HS.out, if_neg HM.out], by rw [HS.out, if_neg HM.out], hBx⟩
          case measure => simp [intOf]; omega
      · have bp : (f.point == p) = false := by simpa using hp
        have HM := Lib.hid (show ¬ mtch p y f = true by unfold mtch; rw [decide_eq_false hp]; simp)
        clear hp
        go_wp2_with fail
        go_roundw
        case rel => exact ⟨k + 1, by omega, by go_num, by rw [HS.out, if_neg HM.out], by rw [HS.out, if_neg HM.out], hBx⟩
        case measure => simp [intOf]; omega
    · obtain rfl : k = l'.length := by omega
      go_wp2_with fail
      go_ret2
      rw [List.take_length, HN.out]
      exact ⟨rfl, hB2.trans (hB.mono hB2.size)⟩

theorem verdict_c (a b : Int) (w : World) : Calls Try.prog 94 #[.agg #[.int .i64 a, .int .i64 b]] w fun e w' => e = .returned (.int .i64 (verdE (a, b))) ∧ Below w.heap.size w w' := by
  have hB := (Below.refl w.heap.size w).alloc (Nat.le_refl _) (.cells #[.int .i64 a, .int .i64 b] 99)
  by_cases h : 0 < a
  · have HE := Lib.hid (show verdE (a, b) = 1 by unfold verdE; rw [if_pos h])
    go_enter Try.func94, Try.ntmps94
    go_wp2_with fail
    go_ret
    exact ⟨ret_int HE.out.symm, hB⟩
  · by_cases h2 : b = 0
    · have hb2 : (b == 0) = true := by simpa using h2
      have HE := Lib.hid (show verdE (a, b) = 2 by unfold verdE; rw [if_neg h, if_pos h2])
      clear h2
      go_enter Try.func94, Try.ntmps94
      go_wp2_with fail
      go_ret
      exact ⟨ret_int HE.out.symm, hB⟩
    · have hb2 : (b == 0) = false := by simpa using h2
      have HE := Lib.hid (show verdE (a, b) = 3 by unfold verdE; rw [if_neg h, if_neg h2])
      clear h2
      go_enter Try.func94, Try.ntmps94
      go_wp2_with fail
      go_ret
      exact ⟨ret_int HE.out.symm, hB⟩

theorem checked_c {A A' : Nat → Prop} {w : World} {x : Edg} {vx v : Value} {l : List Fu} (hx : ClsM A w vx x.claims) (h : FusM A' w v l) :
    Calls Try.prog 85 #[.agg #[.int .i64 x.points, .int .i64 x.bend, vx], v] w fun e w' => e = .returned (.int .i64 (bothX x l)) ∧ Below w.heap.size w w' := by
  obtain ⟨ax, cx, rfl, _, _⟩ := hx.shape
  have hB1 := (Below.refl w.heap.size w).alloc (Nat.le_refl _) (.cells #[.int .i64 x.points, .int .i64 x.bend, .slice ax x.claims.length cx] 24)
  have hX1 : Blk w.heap.size #[.int .i64 x.points, .int .i64 x.bend, .slice ax x.claims.length cx] 24 (w.alloc (.cells #[.int .i64 x.points, .int .i64 x.bend, .slice ax x.claims.length cx] 24)) := Blk.new _ _ _
  have hx1 := hx.call hB1
  have h1 := h.call hB1
  go_enter Try.func85, Try.ntmps85
  go_wp2_with fail
  refine (check_c hx1).mono ?_
  rintro e w2 ⟨rfl, hB2⟩
  have hX2 := hX1.call hB2
  have h2 := h1.call hB2
  have c0 := hX2.cell 0
  have c1 := hX2.cell 1
  have c2 := hX2.cell 2
  by_cases hck : checkX x = 0
  · have hb : (checkX x != 0) = false := by rw [hck]; rfl
    have hok := checkX_zero.1 hck
    have HE := Lib.hid (show bothX x l = furX x.points l by unfold bothX; rw [if_neg (not_not_intro hck)])
    clear hck
    go_wp2_with fail
    refine (furErr_c hok.p _ _ h2).mono ?_
    rintro e w3 ⟨rfl, hB3⟩
    go_wp2_with fail
    go_ret
    exact ⟨ret_int HE.out.symm, bnx (bnx hB1 hB2) hB3⟩
  · have hb : (checkX x != 0) = true := by simpa using hck
    have HE := Lib.hid (show bothX x l = checkX x by unfold bothX; rw [if_pos hck])
    clear hck
    go_wp2_with fail
    go_ret
    exact ⟨ret_int HE.out.symm, bnx hB1 hB2⟩

end Go.Proofs.Ytgdifckmjdjcpaa
