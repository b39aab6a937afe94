/- Contract of taken (edge); conditions: as checked. -/
import Derived.Test.YtgdifckmjdjcpaaFld2
namespace Go.Proofs.Ytgdifckmjdjcpaa
open Go.RowKit

theorem newG_mem {p y : Int} {l : List Fu} {f : Fu} (h : newG p y l = some f) : f ∈ l := by
  have := new_field (p := p) (y := y) l
  rw [h] at this
  exact this.1

theorem taken_fin {w w2 : World} {b0 : Nat} {x y : Value} (hR2 : Blk (b0 + 1) #[x, y] 99 w2) (hB : Below w.heap.size w w2) (hbw : w.heap.size ≤ b0) {u z U Z : Int} (hu : u = U) (hz : z = Z) {a : Act} (hd : a.defers = []) (h8 : a.tmps[8]? = some (.pointer (some ⟨b0 + 1, 0, none⟩))) :
    bodyPost Try.prog Try.f86 (fun e w' => e = .returned (.agg #[.int .i64 U, .int .i64 Z]) ∧ Below w.heap.size w w') .ret a ((w2.setCell ⟨b0 + 1, 0, none⟩ (.int .i64 u)).setCell ⟨b0 + 1, 1, none⟩ (.int .i64 z)) := by
  subst hu
  subst hz
  have hR3 := (hR2.set 0 (.int .i64 u)).set 1 (.int .i64 z)
  have hB3 := (hB.setCell (p := ⟨b0 + 1, 0, none⟩) (by show w.heap.size ≤ b0 + 1; omega) (.int .i64 u)).setCell (p := ⟨b0 + 1, 1, none⟩) (by show w.heap.size ≤ b0 + 1; omega) (.int .i64 z)
  generalize (w2.setCell ⟨b0 + 1, 0, none⟩ (.int .i64 u)).setCell ⟨b0 + 1, 1, none⟩ (.int .i64 z) = wf at hR3 hB3 ⊢
  have x0 := hR3.cell 0
  have x1 := hR3.cell 1
  exact bodyPost_ret (v := .agg #[.int .i64 u, .int .i64 z]) (by rw [results, Try.results86]; simp [go_sem, h8, x0, x1]) hd ⟨rfl, hB3⟩

set_option maxHeartbeats 1000000 in
theorem taken_c {A : Nat → Prop} {w : World} {v : Value} {l : List Fu} (h : FusM A w v l) (hn : l.length ≤ 8) (h1 : OneEach l) (ho : ∀ f ∈ l, 0 ≤ f.off ∧ f.off ≤ 9) {a b : Int} (ha : -100 ≤ a ∧ a ≤ 100) (hb : -100 ≤ b ∧ b ≤ 100) (p y : Int) :
    Calls Try.prog 86 #[v, .agg #[.int .i64 a, .int .i64 b], .int .i64 p, .int .i64 y] w fun e w' => e = .returned (.agg #[.int .i64 (tkF (newG p y l) a), .int .i64 (tkF (newG p y l) b)]) ∧ Below w.heap.size w w' := by
  obtain ⟨a1, c1, rfl, _, _⟩ := h.shape
  obtain ⟨w1, hw1⟩ : ∃ w1, w1 = (w.alloc (.cells #[.int .i64 a, .int .i64 b] 99)).alloc (.cells #[.int .i64 0, .int .i64 0] 99) := ⟨_, rfl⟩
  obtain ⟨b0, hb0⟩ : ∃ b, b = w.heap.size := ⟨_, rfl⟩
  have hA1 : Blk b0 #[.int .i64 a, .int .i64 b] 99 w1 := by rw [hw1, hb0]; exact (Blk.new w _ _).alloc _
  have hR1 : Blk (b0 + 1) #[.int .i64 0, .int .i64 0] 99 w1 := by rw [hw1, hb0]; exact blk_at (by simp) _ _
  have hB1 : Below w.heap.size w w1 := by rw [hw1]; exact ((Below.refl _ w).alloc (Nat.le_refl _) _).alloc (by simp) _
  have hF1 := h.call hB1
  have hbw : w.heap.size ≤ b0 := Nat.le_of_eq hb0.symm
  go_enter Try.func86, Try.ntmps86
  go_upto_region 1 with fail
  rw [← hw1, ← hb0]
  clear hw1 hb0
  go_wp2_with fail
  refine (field_c hF1 hn h1 p y).mono ?_
  rintro e w2 ⟨rfl, hB2⟩
  have hA2 := hA1.call hB2
  have hR2 := hR1.call hB2
  have c0 := hA2.cell 0
  have c1' := hA2.cell 1
  have d0 := hR2.cell 0
  have d1 := hR2.cell 1
  have f0 := hR2.free 0
  have f1 := hR2.free 1
  have hl2 := hR2.lt
  cases hg : newG p y l with
  | none =>
    have e1 : fldV none = (0, false) := rfl
    rw [e1]
    go_wp2_with fail
    exact taken_fin hR2 (hB1.trans (hB2.mono hB1.size)) hbw (by rw [hg]; rfl) (by rw [hg]; rfl) rfl rfl
  | some f =>
    have e1 : fldV (some f) = (f.off, true) := rfl
    rw [e1]
    have hf := ho f (newG_mem hg)
    have HG := Lib.hid hg
    clear hg
    go_wp2_with fail
    all_goals exact taken_fin hR2 (hB1.trans (hB2.mono hB1.size)) hbw (by rw [HG.out]; simp only [tkF]; omega) (by rw [HG.out]; simp only [tkF]; omega) rfl rfl

end Go.Proofs.Ytgdifckmjdjcpaa
