/- A village put in place of a copy's first one; an argument of type api.Village, read as a village; conditions: as said. -/
import Derived.Test.YthchpoabncdicaaCopyO
import Derived.Test.YthchpoabncdicaaArgC
namespace Go.Proofs.Ythchpoabncdicaa
open Go.RowKit Go.ChangeShapes Go.WideShapes Go.ChangeAt

theorem vcells_put (vs : List Vil) (ls : List Value) (h : ls.length = vs.length) (hn : 0 < vs.length) (v : Vil) (u : Value) :
    (((vcells vs ls).set 0 (.int .i64 v.hearths)).set 1 (.int .i64 v.herd)).set 2 u = vcells (vs.set 0 v) (ls.set 0 u) := by
  match vs, ls, h, hn with
  | a :: t, b :: s, _, _ => simp [vcells]

/-- The first village of a copy's is another one. -/
theorem Copied.put {A C : Nat → Prop} {B g cap : Nat} {w : World} {vm u : Value} {c : Com} {ls : List Value} {v : Vil} (h : Copied B w vm (.slice (some ⟨g, 0, none⟩) c.villages.length cap) c ls) (hn : 0 < c.villages.length)
    (hu : Ints A w u v.likes) (hA : ∀ b, A b → b < w.heap.size → C b ∧ b ≠ g) (hC : ∀ b, B ≤ b → C b) :
    Cm C (((w.setCell ⟨g, 0, none⟩ (.int .i64 v.hearths)).setCell ⟨g, 1, none⟩ (.int .i64 v.herd)).setCell ⟨g, 2, none⟩ u) vm (.slice (some ⟨g, 0, none⟩) c.villages.length cap) ⟨c.mountains, c.villages.set 0 v⟩ := by
  have hoth : ∀ i, i ≠ g → (((w.setCell ⟨g, 0, none⟩ (.int .i64 v.hearths)).setCell ⟨g, 1, none⟩ (.int .i64 v.herd)).setCell ⟨g, 2, none⟩ u).heap[i]? = w.heap[i]? := fun i hi =>
    ((Below.heap_setCell _ _ _ _ (show i ≠ g from hi)).trans (Below.heap_setCell _ _ _ _ (show i ≠ g from hi))).trans (Below.heap_setCell _ _ _ _ (show i ≠ g from hi))
  have hszz : w.heap.size ≤ (((w.setCell ⟨g, 0, none⟩ (.int .i64 v.hearths)).setCell ⟨g, 1, none⟩ (.int .i64 v.herd)).setCell ⟨g, 2, none⟩ u).heap.size := by simp [World.setCell]
  have hne : ∀ b : Nat, (Value.slice (some ⟨g, 0, none⟩) c.villages.length cap).ownBlock ≠ some b → b ≠ g := fun b hb e => hb (by rw [e]; rfl)
  have o3 := (World.ownsRow.stored (World.ownsRow.stored (World.ownsRow.stored h.ov 0 (.int .i64 v.hearths)).1 1 (.int .i64 v.herd)).1 2 u).1
  rw [vcells_put c.villages ls h.ll hn v u] at o3
  have hll := h.ll
  refine ⟨(h.im.step hszz fun b hb _ => hoth b (hne b hb.2)).wide fun b hb _ => hC b hb.1, ls.set 0 u, by simp [hll], ?_, fun i a b => ?_⟩
  · have := Own.arr o3
    show Arr C _ _ (c.villages.set 0 v).length _
    rw [List.length_set]
    exact this.wide fun b hb _ => hC b hb
  · simp only [List.getElem_set]
    by_cases e : 0 = i
    · subst e
      simp only [if_true]
      exact ((hu.wide (A' := fun b => C b ∧ b ≠ g) hA).step hszz fun b hb _ => hoth b hb.2).wide fun b hb _ => hb.1
    · simp only [e, if_false]
      exact ((h.lk i (by simpa using a) (by simpa using b)).step hszz fun b hb _ => hoth b (hne b hb.2)).wide fun b hb _ => hC b hb.1

section
variable {H : Type} {enc : TypeId × Value → H} {W : World}
set_option maxRecDepth 100000 in
theorem vil_of_arg {base : Nat} {v : Value} {d : DataW H} {p : List MemPlace} (hok : Value.okWide Try.prog W .any base 51 v) (h : DataW.Trod enc Try.prog W 0 (fun _ => true) true 51 v d p) :
    ∃ (x y : Int) (u : Value) (l : List Int), v = .agg #[.int .i64 x, .int .i64 y, u] ∧ Ints (fun _ => True) W u l := by
  obtain ⟨fuel, hf⟩ := h
  obtain ⟨f0, f1, f2, hu, a1, a2, a3, a4, a5, a6⟩ := u51
  obtain ⟨cs, rfl, hcs⟩ := okWide_struct hu hok
  obtain ⟨y0, y1, y2, n, _, hl, t0, t1, t2⟩ := Deep.trod_struct3 hu hf
  obtain ⟨l⟩ := cs
  have hl2 : l.length = 3 := by rw [c51] at hcs; simpa using hcs
  match l, hl2 with
  | [x0, x1, x2], _ =>
    rw [a1, a2, Try.cells3] at t0
    rw [a3, a4, Try.cells3] at t1
    rw [a5, a6, c22] at t2
    obtain ⟨z0, e0, _⟩ := DataW.trod_int Try.underlying3 (show DataW.trod enc Try.prog W 0 (fun _ => true) true n 3 [x0] = some y0 from t0)
    obtain ⟨z1, e1, _⟩ := DataW.trod_int Try.underlying3 (show DataW.trod enc Try.prog W 0 (fun _ => true) true n 3 [x1] = some y1 from t1)
    obtain ⟨l, hl2⟩ := ints_of_trod (show DataW.trod enc Try.prog W 0 (fun _ => true) true n 22 [x2] = some y2 from t2)
    injection e0 with e0
    injection e1 with e1
    subst e0; subst e1
    exact ⟨z0, z1, x2, l, rfl, hl2⟩
end

end Go.Proofs.Ythchpoabncdicaa
