/- What stands in the loop of ranges (mestatop); conditions: as said. -/
import Derived.Test.YthchpoabncdicaaGr14
import Derived.Test.YthchpoabncdicaaComM
namespace Go.Proofs.Ythchpoabncdicaa
open Go.RowKit

def pcells : List Pas → List Value
  | [] => []
  | p :: t => [.int .i64 p.grass, .int .i64 p.bears, .int .i64 p.dry, .int .i64 p.wet, .int .i64 p.stub, .int .i64 p.sleep] ++ pcells t
theorem pcells_append : ∀ (a : List Pas) (p : Pas), pcells (a ++ [p]) = pcells a ++ [.int .i64 p.grass, .int .i64 p.bears, .int .i64 p.dry, .int .i64 p.wet, .int .i64 p.stub, .int .i64 p.sleep]
  | [], _ => rfl
  | q :: t, p => by rw [List.cons_append, pcells, pcells_append t p, pcells, List.append_assoc]

theorem ob {g n c k : Nat} (h : (Value.slice (some ⟨g, 0, none⟩) n c).ownBlock = some k) : g = k := by injection h
/-- Commons whose numbers change: their blocks are from N on and below S. -/
structure RM (N S gm gv n cm cv : Nat) (w : World) (ms : List Int) (vs : List Vil) (ls : List Value) : Prop where
  om : Own N w 3 1 (.slice (some ⟨gm, 0, none⟩) n cm) n (I64 ms)
  ov : Own N w 51 3 (.slice (some ⟨gv, 0, none⟩) n cv) n (vcells vs ls)
  ne : gm ≠ gv
  gmS : gm < S
  gvS : gv < S
  ml : ms.length = n
  vl : vs.length = n
  ll : ls.length = n
  li : ∀ i (a : i < ls.length) (b : i < vs.length), Ints (fun b => N ≤ b ∧ b < S ∧ b ≠ gm ∧ b ≠ gv) w ls[i] vs[i].likes
theorem RM.of {N gm gv n cm cv : Nat} {w : World} {ms : List Int} {vs : List Vil} {ls : List Value} (h : MKB N w (.slice (some ⟨gm, 0, none⟩) n cm) (.slice (some ⟨gv, 0, none⟩) n cv) ms vs ls) (hm : ms.length = n) (hv : vs.length = n) : RM N w.heap.size gm gv n cm cv w ms vs ls := by
  have h1 := World.ownsRow.lt h.om gm rfl
  have h2 := World.ownsRow.lt h.ov gv rfl
  refine ⟨by have := h.om; rwa [hm] at this, by have := h.ov; rwa [hv] at this, fun e => h.apart gm rfl (by rw [e]; rfl), h1.2, h2.2, hm, hv, h.ll.trans hv, fun i a b => (h.li i a b).wide fun k hk hl => ⟨hk.1, hl, fun e => hk.2.1 (by rw [e]; rfl), fun e => hk.2.2 (by rw [e]; rfl)⟩⟩
section
variable {N S gm gv n cm cv : Nat} {w w' : World} {ms : List Int} {vs : List Vil} {ls : List Value}
theorem RM.step (h : RM N S gm gv n cm cv w ms vs ls) (hs : w.heap.size ≤ w'.heap.size) (hb : ∀ k, N ≤ k → k < S → w'.heap[k]? = w.heap[k]?) : RM N S gm gv n cm cv w' ms vs ls :=
  ⟨Own.step h.om fun k hk h1 _ => hb k h1 (by have := ob hk; have := h.gmS; omega), Own.step h.ov fun k hk h1 _ => hb k h1 (by have := ob hk; have := h.gvS; omega), h.ne, h.gmS, h.gvS, h.ml, h.vl, h.ll, fun i a b => (h.li i a b).step hs fun k hk _ => hb k hk.1 hk.2.1⟩
theorem RM.setM (h : RM N S gm gv n cm cv w ms vs ls) (i : Nat) (x : Int) : RM N S gm gv n cm cv (w.setCell ⟨gm, i, none⟩ (.int .i64 x)) (ms.set i x) vs ls := by
  have hoth : ∀ k, k ≠ gm → (w.setCell ⟨gm, i, none⟩ (.int .i64 x)).heap[k]? = w.heap[k]? := fun k hk => Below.heap_setCell _ _ _ _ (show k ≠ gm from hk)
  have h1 := (World.ownsRow.stored h.om i (.int .i64 x)).1
  have e : (I64 ms).set i (.int .i64 x) = I64 (ms.set i x) := by simp [I64, List.map_set]
  rw [e] at h1
  have hne := h.ne
  exact ⟨h1, Own.step h.ov fun k hk _ _ => hoth k (by have := ob hk; omega), hne, h.gmS, h.gvS, by rw [List.length_set]; exact h.ml, h.vl, h.ll, fun j a b => (h.li j a b).step (by simp [World.setCell]) fun k hk _ => hoth k hk.2.2.1⟩
theorem RM.setH (h : RM N S gm gv n cm cv w ms vs ls) (i : Nat) (hi : i < vs.length) (y : Int) : RM N S gm gv n cm cv (w.setCell ⟨gv, i * 3 + 1, none⟩ (.int .i64 y)) ms (vs.set i ⟨vs[i].hearths, y, vs[i].likes⟩) ls := by
  have hoth : ∀ k, k ≠ gv → (w.setCell ⟨gv, i * 3 + 1, none⟩ (.int .i64 y)).heap[k]? = w.heap[k]? := fun k hk => Below.heap_setCell _ _ _ _ (show k ≠ gv from hk)
  have h1 := (World.ownsRow.stored h.ov (i * 3 + 1) (.int .i64 y)).1
  rw [vcells_herd vs ls (h.ll.trans h.vl.symm) i hi y] at h1
  have hne := h.ne
  refine ⟨Own.step h.om fun k hk _ _ => hoth k (by have := ob hk; omega), h1, hne, h.gmS, h.gvS, h.ml, by rw [List.length_set]; exact h.vl, h.ll, fun j a b => ?_⟩
  have hl := (h.li j a (by simpa using b)).step (w' := w.setCell ⟨gv, i * 3 + 1, none⟩ (.int .i64 y)) (by simp [World.setCell]) fun k hk _ => hoth k hk.2.2.2
  have e : (vs.set i ⟨vs[i].hearths, y, vs[i].likes⟩)[j].likes = (vs[j]'(by simpa using b)).likes := by
    rw [List.getElem_set]
    split
    · subst_vars; rfl
    · rfl
  rw [e]
  exact hl
theorem RM.com (h : RM N S gm gv n cm cv w ms vs ls) : Cm (fun b => N ≤ b) w (.slice (some ⟨gm, 0, none⟩) n cm) (.slice (some ⟨gv, 0, none⟩) n cv) ⟨ms, vs⟩ := by
  obtain ⟨h1, h2, -, -, -, h3, h4, h5, h6⟩ := h
  subst h3
  refine ⟨Own.ints h1, ls, h5.trans h4.symm, ?_, fun i a b => (h6 i a b).wide fun _ hb _ => hb.1⟩
  show Arr _ _ _ vs.length _
  rw [h4]
  exact Own.arr h2
theorem RM.cellM (h : RM N S gm gv n cm cv w ms vs ls) (i : Nat) (hi : i < ms.length) : w.cell? ⟨gm, i, none⟩ = some (.int .i64 ms[i]) := by
  have := World.ownsRow.cellAt h.om i (by have := h.ml; omega)
  rw [this]
  exact I64_at ms i hi
theorem RM.cellH (h : RM N S gm gv n cm cv w ms vs ls) (i : Nat) (hi : i < vs.length) : w.cell? ⟨gv, i * 3 + 1, none⟩ = some (.int .i64 vs[i].herd) := by
  have := World.ownsRow.cellAt h.ov (i * 3 + 1) (by have := h.vl; omega)
  rw [this]
  exact (vcells_at vs ls (h.ll.trans h.vl.symm) i hi).2.1
end

/-- What stands in the loop. -/
structure RL (w : World) (hb rb bc bs N S gm gv n cm cv : Nat) (s : Sky) (i : Nat) (vl : Value) (ms : List Int) (vs : List Vil) (ls : List Value) (ps : List Pas) (K : Nat) (W : World) : Prop where
  r1 : Blk rb #[.int .i64 0, .int .i64 0, .int .i64 0] 67 W
  r2 : Blk (rb + 1) #[.slice none 0 0, .slice none 0 0] 25 W
  bC : Blk bc #[.slice (some ⟨gm, 0, none⟩) n cm, .slice (some ⟨gv, 0, none⟩) n cv] 25 W
  bS : Blk bs #[.int .i64 s.days, .int .i64 s.drought, .int .i64 s.flood] 67 W
  rm : RM N S gm gv n cm cv W ms vs ls
  pl : Own S W 75 6 vl i (pcells ps)
  h : ∃ k, k ≤ K ∧ Hnd W hb k
  g : w.grownBy W (some hb)
/-- How the blocks lie. -/
structure RO (w : World) (hb rb bc bs N S gm gv : Nat) : Prop where
  o1 : hb < w.heap.size
  o2 : w.heap.size ≤ rb
  o3 : rb + 1 < N
  o4 : N ≤ gm
  o5 : N ≤ gv
  o6 : gm < bc
  o7 : gv < bc
  o8 : bc < bs
  o9 : bs < S
theorem RL.below {{w : World}} {{hb rb bc bs N S gm gv n cm cv i : Nat}} {{s : Sky}} {{vl : Value}} {{ms : List Int}} {{vs : List Vil}} {{ls : List Value}} {{ps : List Pas}} {{K : Nat}} {{a b : World}} (h : RL w hb rb bc bs N S gm gv n cm cv s i vl ms vs ls ps K a) (hS : S ≤ a.heap.size) (hB : Below a.heap.size a b) : RL w hb rb bc bs N S gm gv n cm cv s i vl ms vs ls ps K b := by
  obtain ⟨k, hk, hH⟩ := h.h
  exact ⟨h.r1.call hB, h.r2.call hB, h.bC.call hB, h.bS.call hB, h.rm.step hB.size fun k _ h2 => hB.block k (by omega), Own.call h.pl hB, ⟨k, hk, hH.call hB⟩, only_trans h.g (only_below hB)⟩
theorem RL.dealt {{w : World}} {{hb rb bc bs N S gm gv n cm cv i : Nat}} {{s : Sky}} {{vl : Value}} {{ms : List Int}} {{vs : List Vil}} {{ls : List Value}} {{ps : List Pas}} {{K : Nat}} {{a b : World}} {K' k : Nat} (o : RO w hb rb bc bs N S gm gv) (h : RL w hb rb bc bs N S gm gv n cm cv s i vl ms vs ls ps K a) (hS : S ≤ a.heap.size) (hG : a.grownBy b (some hb)) (hH : Hnd b hb k) (hk : k ≤ K') : RL w hb rb bc bs N S gm gv n cm cv s i vl ms vs ls ps K' b := by
  obtain ⟨o1, o2, o3, o4, o5, o6, o7, o8, o9⟩ := o
  have hbl : ∀ q, q ≠ hb → q < a.heap.size → b.heap[q]? = a.heap[q]? := fun q h1 h2 => hG.block q h2 (fun e => h1 (by injection e))
  exact ⟨h.r1.hand hG (by omega), h.r2.hand hG (by omega), h.bC.hand hG (by omega), h.bS.hand hG (by omega), h.rm.step hG.size fun q h1 h2 => hbl q (by omega) (by omega), Own.step h.pl fun q _ h1 h2 => hbl q (by omega) h2, ⟨k, hk, hH⟩, only_trans h.g hG⟩
theorem RL.setM {{w : World}} {{hb rb bc bs N S gm gv n cm cv i : Nat}} {{s : Sky}} {{vl : Value}} {{ms : List Int}} {{vs : List Vil}} {{ls : List Value}} {{ps : List Pas}} {{K : Nat}} {{a : World}} (o : RO w hb rb bc bs N S gm gv) (h : RL w hb rb bc bs N S gm gv n cm cv s i vl ms vs ls ps K a) (j : Nat) (x : Int) : RL w hb rb bc bs N S gm gv n cm cv s i vl (ms.set j x) vs ls ps K (a.setCell ⟨gm, j, none⟩ (.int .i64 x)) := by
  obtain ⟨o1, o2, o3, o4, o5, o6, o7, o8, o9⟩ := o
  obtain ⟨k, hk, hH⟩ := h.h
  exact ⟨h.r1.other (a := ⟨gm, j, none⟩) (by simp; omega) _, h.r2.other (a := ⟨gm, j, none⟩) (by simp; omega) _, h.bC.other (a := ⟨gm, j, none⟩) (by simp; omega) _, h.bS.other (a := ⟨gm, j, none⟩) (by simp; omega) _, h.rm.setM j x,
    Own.step h.pl fun q _ h1 _ => Below.heap_setCell _ _ _ _ (show q ≠ gm by omega), ⟨k, hk, hH.setCell (by show hb < gm; omega) _⟩, only_setCell h.g (show w.heap.size ≤ gm by omega) _⟩
theorem RL.setH {{w : World}} {{hb rb bc bs N S gm gv n cm cv i : Nat}} {{s : Sky}} {{vl : Value}} {{ms : List Int}} {{vs : List Vil}} {{ls : List Value}} {{ps : List Pas}} {{K : Nat}} {{a : World}} (o : RO w hb rb bc bs N S gm gv) (h : RL w hb rb bc bs N S gm gv n cm cv s i vl ms vs ls ps K a) (j : Nat) (hj : j < vs.length) (y : Int) : RL w hb rb bc bs N S gm gv n cm cv s i vl ms (vs.set j ⟨vs[j].hearths, y, vs[j].likes⟩) ls ps K (a.setCell ⟨gv, j * 3 + 1, none⟩ (.int .i64 y)) := by
  obtain ⟨o1, o2, o3, o4, o5, o6, o7, o8, o9⟩ := o
  obtain ⟨k, hk, hH⟩ := h.h
  exact ⟨h.r1.other (a := ⟨gv, j * 3 + 1, none⟩) (by simp; omega) _, h.r2.other (a := ⟨gv, j * 3 + 1, none⟩) (by simp; omega) _, h.bC.other (a := ⟨gv, j * 3 + 1, none⟩) (by simp; omega) _, h.bS.other (a := ⟨gv, j * 3 + 1, none⟩) (by simp; omega) _, h.rm.setH j hj y,
    Own.step h.pl fun q _ h1 _ => Below.heap_setCell _ _ _ _ (show q ≠ gv by omega), ⟨k, hk, hH.setCell (by show hb < gv; omega) _⟩, only_setCell h.g (show w.heap.size ≤ gv by omega) _⟩
theorem RL.push {{w : World}} {{hb rb bc bs N S gm gv n cm cv i : Nat}} {{s : Sky}} {{vl : Value}} {{ms : List Int}} {{vs : List Vil}} {{ls : List Value}} {{ps : List Pas}} {{K : Nat}} {{a b : World}} {vl' : Value} {p : Pas} (o : RO w hb rb bc bs N S gm gv) (h : RL w hb rb bc bs N S gm gv n cm cv s i vl ms vs ls ps K a) (hS : S ≤ a.heap.size) (ho : Own S b 75 6 vl' (i + 1) (pcells ps ++ [.int .i64 p.grass, .int .i64 p.bears, .int .i64 p.dry, .int .i64 p.wet, .int .i64 p.stub, .int .i64 p.sleep])) (ht : Turned a b vl vl') : RL w hb rb bc bs N S gm gv n cm cv s (i + 1) vl' ms vs ls (ps ++ [p]) K b := by
  obtain ⟨o1, o2, o3, o4, o5, o6, o7, o8, o9⟩ := o
  obtain ⟨k, hk, hH⟩ := h.h
  have hB : Below S a b := ht.below2 h.pl (Below.refl _ a) hS (Nat.le_refl _)
  exact ⟨h.r1.below hB (by omega), h.r2.below hB (by omega), h.bC.below hB (by omega), h.bS.below hB (by omega), h.rm.step ht.size fun q _ h2 => hB.block q h2, by rw [pcells_append]; exact ho, ⟨k, hk, hH.below hB (by omega)⟩, ⟨hB.os.trans h.g.os, hB.tape.trans h.g.tape, hB.output.trans h.g.output, Nat.le_trans h.g.size hB.size, fun q hq hne => (hB.block q (by omega)).trans (h.g.block q hq hne)⟩⟩

end Go.Proofs.Ythchpoabncdicaa
