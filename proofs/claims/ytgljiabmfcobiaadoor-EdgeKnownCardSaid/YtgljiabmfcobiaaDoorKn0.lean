/- The examples' edge as a row of the call's own; what the program answers at it; conditions: none. -/
import Derived.Test.YtgljiabmfcobiaaDoorSur
import Derived.Test.YtgljiabmfcobiaaDoorApa
import Derived.Test.YtgljiabmfcobiaaDoorAdd
import Derived.Test.YtgljiabmfcobiaaDoorSin
namespace Go.Proofs.YtgljiabmfcobiaaDoor
open Go.RowKit

theorem flat_set1 {α : Type} {f : α → List Value} {m : Nat} (hf : ∀ a, (f a).length = m) : ∀ (l : List α) (k : Nat) (hk : k < l.length) (j : Nat), j < m → ∀ (v : Value) (c' : α), f c' = (f l[k]).set j v → (l.flatMap f).set (k * m + j) v = (l.set k c').flatMap f
  | [], k, hk, _, _, _, _, _ => by simp at hk
  | a :: l, 0, _, j, hj, v, c', h => by
    have h : f c' = (f a).set j v := h
    simp only [List.flatMap_cons, List.set_cons_zero, Nat.zero_mul, Nat.zero_add]
    rw [List.set_append_left _ _ (by rw [hf]; exact hj), h]
  | a :: l, k + 1, hk, j, hj, v, c', h => by
    have hk' : k < l.length := by simpa using hk
    have ih := flat_set1 hf l k hk' j hj v c' (by simpa using h)
    simp only [List.flatMap_cons, List.set_cons_succ]
    rw [List.set_append_right _ _ (by rw [hf, Nat.succ_mul]; omega), hf, show (k + 1) * m + j - m = k * m + j by rw [Nat.succ_mul]; omega, ih]

/-- Claims in a row of the call's own. -/
def CO (N g n cap : Nat) (l : List Cl) (w : World) : Prop := Own N w 27 5 (.slice (some ⟨g, 0, none⟩) n cap) n (l.flatMap ccells)
theorem CO.len {N g n cap : Nat} {l : List Cl} {w : World} (h : CO N g n cap l w) : l.length = n := by
  have := (show World.ownsRow _ _ _ _ _ _ _ from h).1
  rw [flat_len ccells_len] at this
  omega
theorem CO.at {N g n cap : Nat} {l : List Cl} {w : World} (h : CO N g n cap l w) {k : Nat} (hk : k < l.length) :
    w.cell? ⟨g, k * 5, none⟩ = some (.int .i64 l[k].kind) ∧ w.cell? ⟨g, k * 5 + 1, none⟩ = some (.int .i64 l[k].point) ∧ w.cell? ⟨g, k * 5 + 2, none⟩ = some (.int .i64 l[k].other) ∧ w.cell? ⟨g, k * 5 + 3, none⟩ = some (.int .i64 l[k].off) ∧ w.cell? ⟨g, k * 5 + 4, none⟩ = some (.int .i64 l[k].err) := by
  have hl := h.len
  have h0 := flat_at ccells_len l k hk 0 (by decide)
  have h1 := flat_at ccells_len l k hk 1 (by decide)
  have h2 := flat_at ccells_len l k hk 2 (by decide)
  have h3 := flat_at ccells_len l k hk 3 (by decide)
  have h4 := flat_at ccells_len l k hk 4 (by decide)
  rw [Nat.add_zero] at h0
  refine ⟨?_, ?_, ?_, ?_, ?_⟩
  · rw [World.ownsRow.cellAt h _ (by omega)]; exact h0
  · rw [World.ownsRow.cellAt h _ (by omega)]; exact h1
  · rw [World.ownsRow.cellAt h _ (by omega)]; exact h2
  · rw [World.ownsRow.cellAt h _ (by omega)]; exact h3
  · rw [World.ownsRow.cellAt h _ (by omega)]; exact h4
theorem CO.free {N g n cap : Nat} {l : List Cl} {w : World} (h : CO N g n cap l w) (j : Nat) : w.frozen? ⟨g, j, none⟩ = false := own_free h j
theorem CO.call {N g n cap : Nat} {l : List Cl} {w w' : World} (h : CO N g n cap l w) (hB : Below w.heap.size w w') : CO N g n cap l w' := Own.call h hB
theorem CO.blk {N g n cap : Nat} {l : List Cl} {w : World} (h : CO N g n cap l w) : N ≤ g ∧ g < w.heap.size := World.ownsRow.lt h g rfl
theorem CO.set {N g n cap : Nat} {l : List Cl} {w : World} (h : CO N g n cap l w) {k : Nat} (hk : k < l.length) (j : Nat) (hj : j < 5) (v : Value) (c' : Cl) (hc : ccells c' = (ccells l[k]).set j v) : CO N g n cap (l.set k c') (w.setCell ⟨g, k * 5 + j, none⟩ v) := by
  have h1 := (World.ownsRow.stored h (k * 5 + j) v).1
  rw [flat_set1 ccells_len l k hk j hj v c' hc] at h1
  exact h1


theorem Own.keepSet {B : Nat} {w : World} {e : TypeId} {sz n : Nat} {v : Value} {xs : List Value} (h : Own B w e sz v n xs) {b : Nat} (hb : b < B) (i : Nat) (u : Value) : Own B (w.setCell ⟨b, i, none⟩ u) e sz v n xs :=
  Own.step h fun q _ hq _ => Below.heap_setCell _ _ _ _ (show q ≠ b by omega)
theorem Own.lower {B B' : Nat} {w : World} {e : TypeId} {sz n : Nat} {v : Value} {xs : List Value} (h : Own B w e sz v n xs) (hb : B' ≤ B) : Own B' w e sz v n xs := by
  refine ⟨h.1, ?_⟩
  rcases h.2 with hn | ⟨g, cap, cur, rfl, h0, rest⟩
  · exact .inl hn
  · exact .inr ⟨g, cap, cur, rfl, Nat.le_trans hb h0, rest⟩

set_option maxRecDepth 100000 in
set_option maxHeartbeats 1000000 in
theorem bank_o {A : Nat → Prop} {w : World} {v : Value} {l : List Cl} (h : ClsM A w v l) (hl : l.length ≤ 10) :
    Calls Tryd.prog 4 #[v] w fun e w' => ∃ v', e = .returned (.agg #[.int .i64 3, .int .i64 2, v']) ∧ Own w.heap.size w' 27 5 v' (bankE l).claims.length ((bankE l).claims.flatMap ccells) ∧ Below w.heap.size w w' := by
  obtain ⟨a1, cp, rfl, _, _⟩ := h.shape
  obtain ⟨w1, hw1⟩ : ∃ w1, w1 = w.alloc (.cells #[.int .i64 0, .int .i64 0, .slice none 0 0] 24) := ⟨_, rfl⟩
  obtain ⟨b2, hb2⟩ : ∃ b, b = w.heap.size := ⟨_, rfl⟩
  have hO1 : Blk b2 #[.int .i64 0, .int .i64 0, .slice none 0 0] 24 w1 := by rw [hw1, hb2]; exact Blk.new _ _ _
  have hB1 : Below w.heap.size w w1 := by rw [hw1]; exact (Below.refl _ w).alloc (Nat.le_refl _) _
  go_enter Tryd.func4, Tryd.ntmps4
  go_upto_region 1 with fail
  rw [← hw1, ← hb2]
  have hbw : w.heap.size ≤ b2 := Nat.le_of_eq hb2.symm
  clear hw1 hb2
  go_wp2_with fail
  refine (claim_c 1 0 4 _).mono ?_
  rintro e w2 ⟨rfl, hB2⟩
  go_wp2_with fail
  refine (claim_c 3 1 5 _).mono ?_
  rintro e w3 ⟨rfl, hB3⟩
  have hB13 := bnx hB1 (bnx hB2 hB3)
  have hO3 := (hO1.call hB2).call hB3
  have hz3 := hO3.lt
  have h4 := (h.call hB13).call ((Below.refl w3.heap.size w3).alloc (Nat.le_refl _) (.cells #[.int .i64 1, .int .i64 0, .int .i64 0, .int .i64 4, .int .i64 0, .int .i64 2, .int .i64 2, .int .i64 0, .int .i64 7, .int .i64 1, .int .i64 3, .int .i64 1, .int .i64 0, .int .i64 5, .int .i64 0] 27))
  have hown := own_lit w3 27 5 #[.int .i64 1, .int .i64 0, .int .i64 0, .int .i64 4, .int .i64 0, .int .i64 2, .int .i64 2, .int .i64 0, .int .i64 7, .int .i64 1, .int .i64 3, .int .i64 1, .int .i64 0, .int .i64 5, .int .i64 0] 3 rfl (by omega)
  have hO4 := hO3.alloc (.cells #[.int .i64 1, .int .i64 0, .int .i64 0, .int .i64 4, .int .i64 0, .int .i64 2, .int .i64 2, .int .i64 0, .int .i64 7, .int .i64 1, .int .i64 3, .int .i64 1, .int .i64 0, .int .i64 5, .int .i64 0] 27)
  have hB4 := bal2 (o := .cells #[.int .i64 1, .int .i64 0, .int .i64 0, .int .i64 4, .int .i64 0, .int .i64 2, .int .i64 2, .int .i64 0, .int .i64 7, .int .i64 1, .int .i64 3, .int .i64 1, .int .i64 0, .int .i64 5, .int .i64 0] 27) hB13
  go_wp2_with (at_builtin; go_loud (refine wpList_append_arr rfl _ _ 22 rfl 27 _ 5 40 Tryd.underlying22 Tryd.info27 rfl (by decide) (by decide) (by simp) hown rfl h4 rfl (flat_len ccells_len l) (cls_one l) (by omega) ?_; intro v' w5 hown5 hT; obtain ⟨a5, c5, rfl⟩ := own_slice hown5; have hO5 := hO4.keep (hT.block _ hO4.lt (fun e => by have := (World.ownsRow.lt hown _ e).1; omega)); have o0 := hO5.cell 0; have o1 := hO5.cell 1; have o2 := hO5.cell 2; have g0 := hO5.free 0; have g1 := hO5.free 1; have g2 := hO5.free 2))
  have hO6 := hO5.set3 (x' := .int .i64 3) (y' := .int .i64 2) (z' := .slice a5 (3 + l.length) c5)
  have hB5 := hT.below2 hown hB4 (by simp; have := hB13.size; omega) (by have := hB13.size; omega)
  have hB6 := ((hB5.setCell (p := ⟨b2, 0, none⟩) hbw (.int .i64 3)).setCell (p := ⟨b2, 1, none⟩) hbw (.int .i64 2)).setCell (p := ⟨b2, 2, none⟩) hbw (.slice a5 (3 + l.length) c5)
  have hR6 : Own w3.heap.size (((w5.setCell ⟨b2, 0, none⟩ (.int .i64 3)).setCell ⟨b2, 1, none⟩ (.int .i64 2)).setCell ⟨b2, 2, none⟩ (.slice a5 (3 + l.length) c5)) 27 5 (.slice a5 (3 + l.length) c5) (bankE l).claims.length ((bankE l).claims.flatMap ccells) := by
    have h1 : Own w3.heap.size w5 27 5 (.slice a5 (3 + l.length) c5) (bankE l).claims.length ((bankE l).claims.flatMap ccells) := by
      have e1 : (bankE l).claims.length = 3 + l.length := by simp [bankE]; omega
      have e2 : (bankE l).claims.flatMap ccells = #[.int .i64 1, .int .i64 0, .int .i64 0, .int .i64 4, .int .i64 0, .int .i64 2, .int .i64 2, .int .i64 0, .int .i64 7, .int .i64 1, .int .i64 3, .int .i64 1, .int .i64 0, .int .i64 5, .int .i64 0].toList ++ l.flatMap ccells := by simp [bankE, ccells]
      rw [e1, e2]
      exact hown5
    exact Own.keepSet (Own.keepSet (Own.keepSet h1 (by omega) _ _) (by omega) _ _) (by omega) _ _
  generalize ((w5.setCell ⟨b2, 0, none⟩ (.int .i64 3)).setCell ⟨b2, 1, none⟩ (.int .i64 2)).setCell ⟨b2, 2, none⟩ (.slice a5 (3 + l.length) c5) = wf at hO6 hB6 hR6 ⊢
  have x0 := hO6.cell 0
  have x1 := hO6.cell 1
  have x2 := hO6.cell 2
  exact bodyPost_ret (v := .agg #[.int .i64 3, .int .i64 2, .slice a5 (3 + l.length) c5]) (by simp [results, Tryd.results4, go_sem, x0, x1, x2]) rfl ⟨_, rfl, Own.lower hR6 hB13.size, hB6⟩

theorem kApart1 {A : Nat → Prop} {w : World} {v : Value} (h : ClsM A w v (bankE []).claims) : Calls Tryd.prog 7 #[.agg #[.int .i64 3, .int .i64 2, v], .int .i64 2, .int .i64 1] w fun e w' => e = .returned (.tuple #[.agg #[.int .i64 1, .int .i64 2], .int .i64 0]) ∧ Below w.heap.size w w' := by
  have := apart_c (x := bankE []) h 2 1
  rw [known_apart.1] at this
  exact this
theorem kApart2 {A : Nat → Prop} {w : World} {v : Value} (h : ClsM A w v (bankE []).claims) : Calls Tryd.prog 7 #[.agg #[.int .i64 3, .int .i64 2, v], .int .i64 0, .int .i64 2] w fun e w' => e = .returned (.tuple #[.agg #[.int .i64 (-3), .int .i64 (-2)], .int .i64 0]) ∧ Below w.heap.size w w' := by
  have := apart_c (x := bankE []) h 0 2
  rw [known_apart.2.1] at this
  exact this
theorem known_apart3 : apartX (bankE []) 0 3 = ((0, 0), 3) := by decide +kernel
theorem kApart3 {A : Nat → Prop} {w : World} {v : Value} (h : ClsM A w v (bankE []).claims) : Calls Tryd.prog 7 #[.agg #[.int .i64 3, .int .i64 2, v], .int .i64 0, .int .i64 3] w fun e w' => e = .returned (.tuple #[.agg #[.int .i64 0, .int .i64 0], .int .i64 3]) ∧ Below w.heap.size w w' := by
  have := apart_c (x := bankE []) h 0 3
  rw [known_apart3] at this
  exact this
/-- The claims asked of, and the verdicts. -/
def kCl : List Cl := [⟨4, 1, 0, 4, 0⟩, ⟨4, 1, 0, 5, 0⟩, ⟨1, 2, 0, 8, 0⟩, ⟨5, 2, 1, 2, 0⟩]
def kVe : List Int := [1, 3, 2, 1]
theorem kFollows {A : Nat → Prop} {w : World} {v : Value} (h : ClsM A w v (bankE []).claims) (k : Nat) (hk : k < 4) : Calls Tryd.prog 10 #[.agg #[.int .i64 3, .int .i64 2, v], .agg #[.int .i64 (kCl[k]'hk).kind, .int .i64 (kCl[k]'hk).point, .int .i64 (kCl[k]'hk).other, .int .i64 (kCl[k]'hk).off, .int .i64 (kCl[k]'hk).err]] w fun e w' => e = .returned (.tuple #[.int .i64 (kVe[k]'hk), .int .i64 0]) ∧ Below w.heap.size w w' := by
  have := follows_c (x := bankE []) h (kCl[k]'hk)
  have e : followsX (bankE []) (kCl[k]'hk) = (kVe[k]'hk, 0) := by
    obtain ⟨e1, e2, e3, e4⟩ := known_follows
    match k, hk with
    | 0, _ => exact e1
    | 1, _ => exact e2
    | 2, _ => exact e3
    | 3, _ => exact e4
  rw [e] at this
  exact this
theorem known_add1 : addX (bankE []) ⟨1, 2, 0, 8, 0⟩ = (⟨0, 0, []⟩, 12) := by kernel_rfl
theorem known_add2 : addX (bankE []) ⟨1, 1, 0, 5, 0⟩ = (bankE [⟨1, 1, 0, 5, 0⟩], 0) := by kernel_rfl
theorem kAdd1 {A : Nat → Prop} {w : World} {v : Value} (h : ClsM A w v (bankE []).claims) : Calls Tryd.prog 11 #[.agg #[.int .i64 3, .int .i64 2, v], .agg #[.int .i64 1, .int .i64 2, .int .i64 0, .int .i64 8, .int .i64 0]] w fun e w' => ∃ v', e = .returned (.tuple #[v', .int .i64 12]) ∧ Below w.heap.size w w' := by
  have := add_c (x := bankE []) h ⟨1, 2, 0, 8, 0⟩
  rw [known_add1] at this
  exact this.mono fun e w' ⟨v', h1, h2, h3⟩ => ⟨_, h1, h3⟩
theorem kAdd2 {A : Nat → Prop} {w : World} {v : Value} (h : ClsM A w v (bankE []).claims) : Calls Tryd.prog 11 #[.agg #[.int .i64 3, .int .i64 2, v], .agg #[.int .i64 1, .int .i64 1, .int .i64 0, .int .i64 5, .int .i64 0]] w fun e w' => ∃ v', e = .returned (.tuple #[.agg #[.int .i64 3, .int .i64 2, v'], .int .i64 0]) ∧ ClsM (fun q => w.heap.size ≤ q) w' v' (bankE [⟨1, 1, 0, 5, 0⟩]).claims ∧ Below w.heap.size w w' := by
  have := add_c (x := bankE []) h ⟨1, 1, 0, 5, 0⟩
  rw [known_add2] at this
  exact this
theorem kCount {A : Nat → Prop} {w : World} {v : Value} (h : ClsM A w v (bankE [⟨1, 1, 0, 5, 0⟩]).claims) : Calls Tryd.prog 12 #[.agg #[.int .i64 3, .int .i64 2, v]] w fun e w' => e = .returned (.tuple #[.int .i64 2, .int .i64 0]) ∧ Below w.heap.size w w' := by
  have := count25_c (x := bankE [⟨1, 1, 0, 5, 0⟩]) h
  rw [known_add.2.2] at this
  exact this
theorem kWrong1 {A : Nat → Prop} {w : World} {v : Value} (h : ClsM A w v (bankE []).claims) : Calls Tryd.prog 13 #[.agg #[.int .i64 3, .int .i64 2, v]] w fun e w' => ∃ v', e = .returned (.tuple #[v', .int .i64 0]) ∧ Ints (fun k => w.heap.size ≤ k) w' v' [] ∧ Below w.heap.size w w' := by
  have := wrong_c (x := bankE []) h
  rw [known_wrong.1] at this
  exact this
theorem kWrong2 {A : Nat → Prop} {w : World} {v : Value} (h : ClsM A w v (bankE [⟨1, 1, 0, 7, 0⟩]).claims) : Calls Tryd.prog 13 #[.agg #[.int .i64 3, .int .i64 2, v]] w fun e w' => ∃ v', e = .returned (.tuple #[v', .int .i64 0]) ∧ Ints (fun k => w.heap.size ≤ k) w' v' [3] ∧ Below w.heap.size w w' := by
  have := wrong_c (x := bankE [⟨1, 1, 0, 7, 0⟩]) h
  rw [known_wrong.2.1] at this
  exact this
theorem kIdle1 {A : Nat → Prop} {w : World} {v : Value} (h : ClsM A w v (bankE []).claims) : Calls Tryd.prog 14 #[.agg #[.int .i64 3, .int .i64 2, v]] w fun e w' => ∃ v', e = .returned (.tuple #[v', .int .i64 0]) ∧ Ints (fun k => w.heap.size ≤ k) w' v' [] ∧ Below w.heap.size w w' := by
  have := idle_c (x := bankE []) h
  rw [known_wrong.2.2.1] at this
  exact this
theorem kIdle2 {A : Nat → Prop} {w : World} {v : Value} (h : ClsM A w v (bankE [⟨3, 2, 0, 9, 0⟩]).claims) : Calls Tryd.prog 14 #[.agg #[.int .i64 3, .int .i64 2, v]] w fun e w' => ∃ v', e = .returned (.tuple #[v', .int .i64 0]) ∧ Ints (fun k => w.heap.size ≤ k) w' v' [3] ∧ Below w.heap.size w w' := by
  have := idle_c (x := bankE [⟨3, 2, 0, 9, 0⟩]) h
  rw [known_wrong.2.2.2] at this
  exact this
/-- The years asked of, and what is taken in them. -/
def kYe : List Int := [2, 3, 8]
def kTa : List (List (Int × Int)) := [[(0, 0), (0, 0), (0, 0)], [(0, 0), (0, 0), (0, 0)], [(0, 0), (1, 2), (0, 1)]]
theorem kTaken {A A' : Nat → Prop} {w : World} {v vl : Value} (h : ClsM A w v (bankE []).claims) (hl : FusM A' w vl ploughF) (k : Nat) (hk : k < 3) : Calls Tryd.prog 16 #[.agg #[.int .i64 3, .int .i64 2, v], vl, .int .i64 (kYe[k]'hk)] w fun e w' => ∃ v', e = .returned (.tuple #[v', .int .i64 0]) ∧ RgsM (fun k => w.heap.size ≤ k) w' v' (kTa[k]'hk) ∧ Below w.heap.size w w' := by
  have := takens_c (x := bankE []) h hl (kYe[k]'hk)
  have e : takenX (bankE []) ploughF (kYe[k]'hk) = (kTa[k]'hk, 0) := by
    obtain ⟨e1, e2, e3⟩ := known_taken
    match k, hk with
    | 0, _ => exact e1
    | 1, _ => exact e2
    | 2, _ => exact e3
  rw [e] at this
  exact this
theorem kEncr {A A' : Nat → Prop} {w : World} {v vl : Value} (h : ClsM A w v (bankE []).claims) (hl : FusM A' w vl ploughF) : Calls Tryd.prog 19 #[.agg #[.int .i64 3, .int .i64 2, v], vl, .int .i64 4] w fun e w' => ∃ v', e = .returned (.tuple #[v', .int .i64 0]) ∧ Ints (fun q => w.heap.size ≤ q) w' v' [2, 2, 2] ∧ Below w.heap.size w w' := by
  have := encr_c (x := bankE []) h hl 4
  rw [known_encr4] at this
  exact this
def kMa : List Int := [-1, 8, 5]
def kSu : List Int := [-1, 8, -1]
theorem kSince {A A' : Nat → Prop} {w : World} {v vl : Value} (h : ClsM A w v (bankE []).claims) (hl : FusM A' w vl ploughF) (k : Nat) (hk : k < 3) : Calls Tryd.prog 20 #[.agg #[.int .i64 3, .int .i64 2, v], vl, .int .i64 (k : Int)] w fun e w' => e = .returned (.tuple #[.int .i64 (kMa[k]'hk), .int .i64 (kSu[k]'hk), .int .i64 0]) ∧ Below w.heap.size w w' := by
  have := since_c (x := bankE []) h hl (k : Int)
  have e : sinceX (bankE []) ploughF (k : Int) = ((kMa[k]'hk, kSu[k]'hk), 0) := by
    obtain ⟨e1, e2, e3⟩ := known_since
    match k, hk with
    | 0, _ => exact e1
    | 1, _ => exact e2
    | 2, _ => exact e3
  rw [e] at this
  exact this
theorem kFine1 {A A' : Nat → Prop} {w : World} {v vl : Value} (h : ClsM A w v (bankE []).claims) (hl : FusM A' w vl ploughF) : Calls Tryd.prog 21 #[.agg #[.int .i64 3, .int .i64 2, v], vl, .int .i64 2, .int .i64 4, .int .i64 4] w fun e w' => e = .returned (.tuple #[.agg #[.int .i64 0, .int .i64 0], .int .i64 0]) ∧ Below w.heap.size w w' := by
  have := fine_c (x := bankE []) h hl 2 4 4
  rw [known_fine2.1] at this
  exact this
theorem known_fine3 : fineX (bankE []) ploughF 2 8 7 = ((0, 0), 5) := by decide +kernel
theorem kFine2 {A A' : Nat → Prop} {w : World} {v vl : Value} (h : ClsM A w v (bankE []).claims) (hl : FusM A' w vl ploughF) : Calls Tryd.prog 21 #[.agg #[.int .i64 3, .int .i64 2, v], vl, .int .i64 2, .int .i64 8, .int .i64 7] w fun e w' => e = .returned (.tuple #[.agg #[.int .i64 0, .int .i64 0], .int .i64 5]) ∧ Below w.heap.size w w' := by
  have := fine_c (x := bankE []) h hl 2 8 7
  rw [known_fine3] at this
  exact this
theorem known_check1 : checkX (bankE []) = 0 := by decide +kernel
theorem known_check2 : checkX ⟨5, 2, (bankE []).claims⟩ = 1 := by decide +kernel
theorem known_check3 : checkX (bankE [⟨5, 0, 0, 0, 0⟩]) = 4 := by decide +kernel
theorem known_check4 : checkX ⟨3, 2, (bankE []).claims.set 0 ⟨1, 0, 0, 4, 1⟩⟩ = 1 := by decide +kernel
theorem kCheck {A : Nat → Prop} {w : World} {x : Edg} {v : Value} (h : ClsM A w v x.claims) (n : Int) (hn : checkX x = n) : Calls Tryd.prog 6 #[.agg #[.int .i64 x.points, .int .i64 x.bend, v]] w fun e w' => e = .returned (.int .i64 n) ∧ Below w.heap.size w w' := by
  have := check_c (x := x) h
  rw [hn] at this
  exact this

end Go.Proofs.YtgljiabmfcobiaaDoor
