/- The contracts of CopyCommons, SameCommons; conditions: as said at each. -/
import Derived.Test.YtmlikgjfpmjdcaaDoorA2
import Derived.Test.YtmlikgjfpmjdcaaDoorA1
import Derived.Deep.DeepCutAuto
/- The contract of CopyCommons; conditions: lists of at most a thousand. -/
namespace Go.Proofs.YtmlikgjfpmjdcaaDoor
open Go.RowKit

/-- Lists of at most a thousand. -/
structure Com.Sm (c : Com) : Prop where
  m : c.mountains.length ≤ 1000
  v : c.villages.length ≤ 1000
  l : ∀ v ∈ c.villages, v.likes.length ≤ 1000

theorem Com.Ok.sm {c : Com} {most : Nat} (h : c.Ok most) (hm : most ≤ 1000) : c.Sm := by
  have h1 := h.n2
  have h2 := h.vl
  refine ⟨by omega, by omega, fun v hv => ?_⟩
  have := (h.vil v hv).2.2.2.2.len
  omega

theorem vcells_one : ∀ (vs : List Vil) (ls : List Value), (∀ u ∈ ls, u.oneCell' = true) → ∀ u ∈ vcells vs ls, u.oneCell' = true
  | [], _, _, u, hu => by simp [vcells] at hu
  | _ :: _, [], _, u, hu => by simp [vcells] at hu
  | x :: vs, v :: ls, h, u, hu => by
    simp only [vcells, List.mem_cons] at hu
    rcases hu with rfl | rfl | rfl | hu
    · rfl
    · rfl
    · exact h _ (List.mem_cons_self ..)
    · exact vcells_one vs ls (fun y hy => h y (List.mem_cons_of_mem _ hy)) u hu

theorem vils_one {A : Nat → Prop} {w : World} {ls : List Value} {vs : List Vil} (hl : ls.length = vs.length) (hi : ∀ i (a : i < ls.length) (b : i < vs.length), Ints A w ls[i] vs[i].likes) : ∀ u ∈ ls, u.oneCell' = true := by
  intro u hu
  obtain ⟨i, a, rfl⟩ := List.getElem_of_mem hu
  obtain ⟨ao, c, he, _⟩ := (hi i a (by omega)).shape
  rw [he]
  rfl

/-- A box of two cells. -/
def Box2 (b : Nat) (x y : Value) (t : TypeId) (w : World) : Prop := w.heap[b]? = some (.cells #[x, y] t (0, 0))
theorem Box2.c0 {b : Nat} {x y : Value} {t : TypeId} {w : World} (h : Box2 b x y t w) : w.cell? ⟨b, 0, none⟩ = some x := (cells2_at h).1
theorem Box2.c1 {b : Nat} {x y : Value} {t : TypeId} {w : World} (h : Box2 b x y t w) : w.cell? ⟨b, 1, none⟩ = some y := (cells2_at h).2.1

def Both (p q : World → Prop) (w : World) : Prop := p w ∧ q w
def CellIs (b o : Nat) (v : Value) (w : World) : Prop := w.cell? ⟨b, o, none⟩ = some v
theorem CellIs.out {b o : Nat} {v : Value} {w : World} (h : CellIs b o v w) : w.cell? ⟨b, o, none⟩ = some v := h
theorem own_head {B : Nat} {w : World} {e : TypeId} {sz n : Nat} {v : Value} {xs : List Value} (h : Own B w e sz v n xs) (hn : 0 < n) : ∃ g cap, v = .slice (some ⟨g, 0, none⟩) n cap ∧ B ≤ g ∧ g < w.heap.size := by
  rcases h.2 with ⟨rfl, h0⟩ | ⟨g, cap, cur, rfl, hb, hg, _⟩
  · omega
  · exact ⟨g, cap, rfl, hb, (Array.getElem?_eq_some_iff.1 hg).1⟩

/-- The copy in the making: k villages have lists of their own. -/
structure Copying (w : World) (A : Nat → Prop) (c : Com) (wr : World) (k : Nat) (vm vv : Value) (ls : List Value) : Prop where
  box : wr.heap[w.heap.size]? = some (.cells #[vm, vv] 25 (0, 0))
  res : wr.heap[w.heap.size + 1]? = some (.cells #[.slice none 0 0, .slice none 0 0] 25 (0, 0))
  im : Ints (fun b => w.heap.size + 2 ≤ b ∧ vv.ownBlock ≠ some b) wr vm c.mountains
  ov : Own (w.heap.size + 2) wr 28 3 vv c.villages.length (vcells c.villages ls)
  ll : ls.length = c.villages.length
  li : ∀ i (a : i < ls.length) (b : i < c.villages.length), Ints (fun b => (A b ∧ b < w.heap.size) ∨ (w.heap.size + 2 ≤ b ∧ vv.ownBlock ≠ some b)) wr ls[i] c.villages[i].likes
  lk : ∀ i (a : i < ls.length) (b : i < c.villages.length), i < k → Ints (fun b => w.heap.size + 2 ≤ b ∧ vv.ownBlock ≠ some b) wr ls[i] c.villages[i].likes
  below : Below w.heap.size w wr

section
variable {w wr : World} {A : Nat → Prop} {c : Com} {k : Nat} {vm vv : Value} {ls : List Value}

theorem Copying.size (h : Copying w A c wr k vm vv ls) : w.heap.size + 2 ≤ wr.heap.size := by
  have := (Array.getElem?_eq_some_iff.1 h.res).1
  omega

theorem Copying.step (h : Copying w A c wr k vm vv ls) {w' : World} (hB : Below wr.heap.size wr w') : Copying w A c w' k vm vv ls := by
  have hz := h.size
  exact ⟨(hB.block _ (by omega)).trans h.box, (hB.block _ (by omega)).trans h.res, h.im.call hB, Own.call h.ov hB, h.ll, fun i a b => (h.li i a b).call hB, fun i a b hi => (h.lk i a b hi).call hB, h.below.trans (hB.mono (by omega))⟩

/-- The next village's list has been copied and stored. -/
theorem Copying.next (h : Copying w A c wr k vm vv ls) {g cap : Nat} (hv : vv = .slice (some ⟨g, 0, none⟩) c.villages.length cap) (hg : w.heap.size + 2 ≤ g) (hk : k < c.villages.length) {w' : World} {u : Value} (hB : Below wr.heap.size wr w') (hu : Ints (fun b => wr.heap.size ≤ b) w' u c.villages[k].likes) :
    Copying w A c (w'.setCell ⟨g, k * 3 + 2, none⟩ u) (k + 1) vm vv (ls.set k u) := by
  subst hv
  have h2 := h.step hB
  have hz := h.size
  have hgl := (World.ownsRow.lt h.ov g rfl).2
  have hll := h2.ll
  have hoth : ∀ i, i ≠ g → (w'.setCell ⟨g, k * 3 + 2, none⟩ u).heap[i]? = w'.heap[i]? := fun i hi => Below.heap_setCell _ _ _ _ (show i ≠ g from hi)
  have hszz : (w'.setCell ⟨g, k * 3 + 2, none⟩ u).heap.size = w'.heap.size := by simp [World.setCell]
  have hgen : ∀ (D : Nat → Prop) (v : Value) (l : List Int), Ints D w' v l → (∀ b, D b → b ≠ g) → Ints D (w'.setCell ⟨g, k * 3 + 2, none⟩ u) v l := fun D v l hi hd => hi.step (by omega) fun b hb _ => hoth b (hd b hb)
  have hne : ∀ b : Nat, (Value.slice (some ⟨g, 0, none⟩) c.villages.length cap).ownBlock ≠ some b → b ≠ g := fun b hb e => hb (by rw [e]; rfl)
  refine ⟨?_, ?_, hgen _ _ _ h2.im fun b hb => hne b hb.2, ?_, by simpa using hll, ?_, ?_, h2.below.setCell (by show w.heap.size ≤ g; omega) _⟩
  · rw [hoth _ (by omega)]; exact h2.box
  · rw [hoth _ (by omega)]; exact h2.res
  · have := (World.ownsRow.stored h2.ov (k * 3 + 2) u).1
    rw [vcells_set c.villages ls hll k hk u] at this
    exact this
  · intro i a b
    simp only [List.getElem_set]
    split
    · rename_i e
      subst e
      exact hgen _ _ _ (hu.wide fun b hb _ => .inr ⟨by omega, fun e => by simp only [Value.ownBlock, Option.some.injEq] at e; omega⟩) fun b hb => by
        rcases hb with hb | hb
        · omega
        · exact hne b hb.2
    · exact hgen _ _ _ (h2.li i (by simpa using a) b) fun b hb => by
        rcases hb with hb | hb
        · omega
        · exact hne b hb.2
  · intro i a b hi
    simp only [List.getElem_set]
    split
    · rename_i e
      subst e
      exact hgen _ _ _ (hu.wide fun b hb _ => ⟨by omega, fun e => by simp only [Value.ownBlock, Option.some.injEq] at e; omega⟩) fun b hb => hne b hb.2
    · exact hgen _ _ _ (h2.lk i (by simpa using a) b (by omega)) fun b hb => hne b hb.2
end

theorem copying_start {w w5 w6 : World} {A : Nat → Prop} {c : Com} {x y vm' vv' : Value} {gb : Nat} {ls0 : List Value} (hB : Below w.heap.size w w5) (hsz : w.heap.size + 2 ≤ w5.heap.size)
    (hx : Box2 w.heap.size x y 25 w5) (hr : Box2 (w.heap.size + 1) (.slice none 0 0) (.slice none 0 0) 25 w5)
    (hi : Ints (fun b => w.heap.size + 2 ≤ b ∧ b < w5.heap.size ∧ b ≠ gb) w5 vm' c.mountains) (hoe : Own (w.heap.size + 2) w5 28 3 (.slice (some ⟨gb, 0, none⟩) 0 0) 0 [])
    (hl0 : ls0.length = c.villages.length) (hi0 : ∀ i (a : i < ls0.length) (b : i < c.villages.length), Ints (fun b => A b ∧ b < w.heap.size) w5 ls0[i] c.villages[i].likes)
    (hown : Own (w.heap.size + 2) w6 28 3 vv' c.villages.length (vcells c.villages ls0)) (hT : Turned w5 w6 (.slice (some ⟨gb, 0, none⟩) 0 0) vv') :
    Copying w A c ((w6.setCell ⟨w.heap.size, 0, none⟩ vm').setCell ⟨w.heap.size, 1, none⟩ vv') 0 vm' vv' ls0 := by
  have hgb := World.ownsRow.lt hoe gb rfl
  have hs6 := hT.size
  have hoth : ∀ i, i ≠ w.heap.size → ((w6.setCell ⟨w.heap.size, 0, none⟩ vm').setCell ⟨w.heap.size, 1, none⟩ vv').heap[i]? = w6.heap[i]? := fun i hi =>
    (Below.heap_setCell _ _ _ _ (show i ≠ w.heap.size from hi)).trans (Below.heap_setCell _ _ _ _ (show i ≠ w.heap.size from hi))
  have hoth5 : ∀ i, i ≠ w.heap.size → i < w5.heap.size → i ≠ gb → ((w6.setCell ⟨w.heap.size, 0, none⟩ vm').setCell ⟨w.heap.size, 1, none⟩ vv').heap[i]? = w5.heap[i]? := fun i h1 h2 h3 =>
    (hoth i h1).trans (hT.block i h2 (fun e => by simp only [Value.ownBlock, Option.some.injEq] at e; omega))
  have hszz : ((w6.setCell ⟨w.heap.size, 0, none⟩ vm').setCell ⟨w.heap.size, 1, none⟩ vv').heap.size = w6.heap.size := by simp [World.setCell]
  have hpl : ∀ b, b < w5.heap.size → b ≠ gb → vv'.ownBlock ≠ some b := fun b h1 h2 e => by
    rcases hT.place with e2 | e2
    · rw [e2] at e; simp only [Value.ownBlock, Option.some.injEq] at e; omega
    · rw [e2] at e; injection e with e; omega
  refine ⟨?_, ?_, ?_, ?_, hl0, fun i a b => ?_, fun i a b h => by omega, ?_⟩
  · refine two_set (x := x) (y := y) ?_ vm' vv'
    rw [hT.block _ (by omega) (fun e => by simp only [Value.ownBlock, Option.some.injEq] at e; omega)]
    exact hx
  · rw [hoth5 _ (by omega) (by omega) (by omega)]; exact hr
  · exact (hi.step (by omega) fun b hb _ => hoth5 b (by omega) hb.2.1 hb.2.2).wide fun b hb _ => ⟨hb.1, hpl b hb.2.1 hb.2.2⟩
  · exact Own.step hown fun b _ h1 _ => hoth b (by omega)
  · exact ((hi0 i a b).step (by omega) fun b hb _ => hoth5 b (by omega) (by omega) (by omega)).wide fun b hb _ => .inl hb
  · exact ((hT.below2 hoe hB (by omega) (by omega)).setCell (Nat.le_refl _) _).setCell (Nat.le_refl _) _

theorem own_from {B B' : Nat} {w : World} {e : TypeId} {sz n : Nat} {v : Value} {xs : List Value} (h : Own B w e sz v n xs) (hB : B' ≤ B) : Own B' w e sz v n xs := by
  refine ⟨h.1, ?_⟩
  rcases h.2 with hn | ⟨g, cap, cur, rfl, h0, hg, rest⟩
  · exact .inl hn
  · exact .inr ⟨g, cap, cur, rfl, Nat.le_trans hB h0, hg, rest⟩
theorem one_set0 {w : World} {b : Nat} {x y : Value} {t : TypeId} (h : Box2 b x y t w) (u : Value) : Box2 b u y t (w.setCell ⟨b, 0, none⟩ u) := by
  unfold Box2 at *
  simp only [World.setCell, Array.getElem?_modify, h]
  simp

end Go.Proofs.YtmlikgjfpmjdcaaDoor

/- The contract of SameCommons; conditions: none. -/
namespace Go.Proofs.YtmlikgjfpmjdcaaDoor
open Go.RowKit

/-- A village's three cells. -/
def Vil3 (b o : Nat) (v : Vil) (p : Option Addr) (d : Nat) (w : World) : Prop :=
  w.cell? ⟨b, o, none⟩ = some (.int .i64 v.hearths) ∧ w.cell? ⟨b, o + 1, none⟩ = some (.int .i64 v.herd) ∧ w.cell? ⟨b, o + 2, none⟩ = some (.slice p v.likes.length d)
theorem Vil3.keep {b o : Nat} {v : Vil} {p : Option Addr} {d : Nat} {w w' : World} (h : Vil3 b o v p d w) (hb : w'.heap[b]? = w.heap[b]?) : Vil3 b o v p d w' :=
  ⟨(World.cell?_of_block (a := ⟨b, o, none⟩) hb).trans h.1, (World.cell?_of_block (a := ⟨b, o + 1, none⟩) hb).trans h.2.1, (World.cell?_of_block (a := ⟨b, o + 2, none⟩) hb).trans h.2.2⟩
theorem Vil3.below {b o : Nat} {v : Vil} {p : Option Addr} {d B : Nat} {w w' : World} (h : Vil3 b o v p d w) (hB : Below B w w') (hb : b < B) : Vil3 b o v p d w' := h.keep (hB.block b hb)
theorem Box2.keep {b : Nat} {x y : Value} {t : TypeId} {w w' : World} (h : Box2 b x y t w) (hb : w'.heap[b]? = w.heap[b]?) : Box2 b x y t w' := hb.trans h
theorem Box2.below {b B : Nat} {x y : Value} {t : TypeId} {w w' : World} (h : Box2 b x y t w) (hB : Below B w w') (hb : b < B) : Box2 b x y t w' := h.keep (hB.block b hb)
/-- A block known whole. -/
def Blk (b : Nat) (c : Array Value) (t : TypeId) (w : World) : Prop := w.heap[b]? = some (.cells c t (0, 0))
theorem Blk.keep {b : Nat} {c : Array Value} {t : TypeId} {w w' : World} (h : Blk b c t w) (hb : w'.heap[b]? = w.heap[b]?) : Blk b c t w' := hb.trans h
theorem Blk.cell {b : Nat} {c : Array Value} {t : TypeId} {w : World} (h : Blk b c t w) (j : Nat) : w.cell? ⟨b, j, none⟩ = c[j]? := by
  unfold Blk at h
  rw [World.cell?, h]
  rfl
theorem Blk.free {b : Nat} {c : Array Value} {t : TypeId} {w : World} (h : Blk b c t w) (j : Nat) : w.frozen? ⟨b, j, none⟩ = false := by
  unfold Blk at h
  rw [World.frozen?, h]
  simp
theorem Blk.set {b : Nat} {c : Array Value} {t : TypeId} {w : World} (h : Blk b c t w) (j : Nat) (v : Value) : Blk b (c.setIfInBounds j v) t (w.setCell ⟨b, j, none⟩ v) := by
  unfold Blk at *
  simp only [World.setCell, Array.getElem?_modify, h]
  simp
theorem Blk.new (w : World) (c : Array Value) (t : TypeId) : Blk w.heap.size c t (w.alloc (.cells c t)) := heap_alloc_new w _
theorem Blk.lt {b : Nat} {c : Array Value} {t : TypeId} {w : World} (h : Blk b c t w) : b < w.heap.size := (Array.getElem?_eq_some_iff.1 h).1
theorem Blk.below {b B : Nat} {c : Array Value} {t : TypeId} {w w' : World} (h : Blk b c t w) (hB : Below B w w') (hb : b < B) : Blk b c t w' := h.keep (hB.block b hb)
theorem Blk.call {b : Nat} {c : Array Value} {t : TypeId} {w w' : World} (h : Blk b c t w) (hB : Below w.heap.size w w') : Blk b c t w' := h.below hB h.lt
theorem Blk.other {b : Nat} {c : Array Value} {t : TypeId} {w : World} (h : Blk b c t w) {a : Addr} (ha : b ≠ a.block) (u : Value) : Blk b c t (w.setCell a u) := h.keep (Below.heap_setCell w a u b ha)
theorem Blk.alloc {b : Nat} {c : Array Value} {t : TypeId} {w : World} (h : Blk b c t w) (o : Obj) : Blk b c t (w.alloc o) := h.keep (Below.heap_alloc w o b h.lt)

/-- Storing three cells. -/
theorem Blk.set3 {b : Nat} {x y z x' y' z' : Value} {t : TypeId} {w : World} (h : Blk b #[x, y, z] t w) : Blk b #[x', y', z'] t (((w.setCell ⟨b, 0, none⟩ x').setCell ⟨b, 1, none⟩ y').setCell ⟨b, 2, none⟩ z') :=
  ((h.set 0 x').set 1 y').set 2 z'

theorem vil_ext {v1 v2 : Vil} (h1 : v1.hearths = v2.hearths) (h2 : v1.herd = v2.herd) (h3 : v1.likes = v2.likes) : v1 = v2 := by
  cases v1; cases v2; simp_all
theorem com_ext {c1 c2 : Com} (h1 : c1.mountains = c2.mountains) (h2 : c1.villages = c2.villages) : c1 = c2 := by
  cases c1; cases c2; simp_all

end Go.Proofs.YtmlikgjfpmjdcaaDoor

