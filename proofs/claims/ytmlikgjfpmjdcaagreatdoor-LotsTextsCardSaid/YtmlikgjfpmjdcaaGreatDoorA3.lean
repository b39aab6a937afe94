/- The contracts of CopyCommons, SameCommons; conditions: as said at each. -/
import Derived.Test.YtmlikgjfpmjdcaaGreatDoorA2
import Derived.Test.YtmlikgjfpmjdcaaGreatDoorA1
import Derived.Deep.DeepCutAuto
/- The contract of CopyCommons; conditions: lists of at most a thousand. -/
namespace Go.Proofs.YtmlikgjfpmjdcaaGreatDoor
open Go.RowKit

/-- Lists of at most a thousand. -/
structure Com.Sm (c : Com) : Prop where
  m : c.mountains.length ≤ 1000
  v : c.villages.length ≤ 1000
  l : ∀ v ∈ c.villages, v.likes.length ≤ 1000

theorem Com.Ok.sm {c : Com} {most : Nat} (h : c.Ok most) (hm : most ≤ 1000) : c.Sm := by
  have h1 := h.n2
  have h2 := h.vl
  refine ⟨by omega, by omega, fun v hv => ?_⟩
  have := (h.vil v hv).2.2.2.2.len
  omega

theorem vcells_one : ∀ (vs : List Vil) (ls : List Value), (∀ u ∈ ls, u.oneCell' = true) → ∀ u ∈ vcells vs ls, u.oneCell' = true
  | [], _, _, u, hu => by simp [vcells] at hu
  | _ :: _, [], _, u, hu => by simp [vcells] at hu
  | x :: vs, v :: ls, h, u, hu => by
    simp only [vcells, List.mem_cons] at hu
    rcases hu with rfl | rfl | rfl | hu
    · rfl
    · rfl
    · exact h _ (List.mem_cons_self ..)
    · exact vcells_one vs ls (fun y hy => h y (List.mem_cons_of_mem _ hy)) u hu

theorem vils_one {A : Nat → Prop} {w : World} {ls : List Value} {vs : List Vil} (hl : ls.length = vs.length) (hi : ∀ i (a : i < ls.length) (b : i < vs.length), Ints A w ls[i] vs[i].likes) : ∀ u ∈ ls, u.oneCell' = true := by
  intro u hu
  obtain ⟨i, a, rfl⟩ := List.getElem_of_mem hu
  obtain ⟨ao, c, he, _⟩ := (hi i a (by omega)).shape
  rw [he]
  rfl

/-- A box of two cells. -/
def Box2 (b : Nat) (x y : Value) (t : TypeId) (w : World) : Prop := w.heap[b]? = some (.cells #[x, y] t (0, 0))
theorem Box2.c0 {b : Nat} {x y : Value} {t : TypeId} {w : World} (h : Box2 b x y t w) : w.cell? ⟨b, 0, none⟩ = some x := (cells2_at h).1
theorem Box2.c1 {b : Nat} {x y : Value} {t : TypeId} {w : World} (h : Box2 b x y t w) : w.cell? ⟨b, 1, none⟩ = some y := (cells2_at h).2.1

def Both (p q : World → Prop) (w : World) : Prop := p w ∧ q w
def CellIs (b o : Nat) (v : Value) (w : World) : Prop := w.cell? ⟨b, o, none⟩ = some v
theorem CellIs.out {b o : Nat} {v : Value} {w : World} (h : CellIs b o v w) : w.cell? ⟨b, o, none⟩ = some v := h
theorem own_head {B : Nat} {w : World} {e : TypeId} {sz n : Nat} {v : Value} {xs : List Value} (h : Own B w e sz v n xs) (hn : 0 < n) : ∃ g cap, v = .slice (some ⟨g, 0, none⟩) n cap ∧ B ≤ g ∧ g < w.heap.size := by
  rcases h.2 with ⟨rfl, h0⟩ | ⟨g, cap, cur, rfl, hb, hg, _⟩
  · omega
  · exact ⟨g, cap, rfl, hb, (Array.getElem?_eq_some_iff.1 hg).1⟩

/-- The copy in the making: k villages have lists of their own. -/
structure Copying (w : World) (A : Nat → Prop) (c : Com) (wr : World) (k : Nat) (vm vv : Value) (ls : List Value) : Prop where
  box : wr.heap[w.heap.size]? = some (.cells #[vm, vv] 25 (0, 0))
  res : wr.heap[w.heap.size + 1]? = some (.cells #[.slice none 0 0, .slice none 0 0] 25 (0, 0))
  im : Ints (fun b => w.heap.size + 2 ≤ b ∧ vv.ownBlock ≠ some b) wr vm c.mountains
  ov : Own (w.heap.size + 2) wr 43 3 vv c.villages.length (vcells c.villages ls)
  ll : ls.length = c.villages.length
  li : ∀ i (a : i < ls.length) (b : i < c.villages.length), Ints (fun b => (A b ∧ b < w.heap.size) ∨ (w.heap.size + 2 ≤ b ∧ vv.ownBlock ≠ some b)) wr ls[i] c.villages[i].likes
  lk : ∀ i (a : i < ls.length) (b : i < c.villages.length), i < k → Ints (fun b => w.heap.size + 2 ≤ b ∧ vv.ownBlock ≠ some b) wr ls[i] c.villages[i].likes
  below : Below w.heap.size w wr

section
variable {w wr : World} {A : Nat → Prop} {c : Com} {k : Nat} {vm vv : Value} {ls : List Value}

theorem Copying.size (h : Copying w A c wr k vm vv ls) : w.heap.size + 2 ≤ wr.heap.size := by
  have := (Array.getElem?_eq_some_iff.1 h.res).1
  omega

theorem Copying.step (h : Copying w A c wr k vm vv ls) {w' : World} (hB : Below wr.heap.size wr w') : Copying w A c w' k vm vv ls := by
  have hz := h.size
  exact ⟨(hB.block _ (by omega)).trans h.box, (hB.block _ (by omega)).trans h.res, h.im.call hB, Own.call h.ov hB, h.ll, fun i a b => (h.li i a b).call hB, fun i a b hi => (h.lk i a b hi).call hB, h.below.trans (hB.mono (by omega))⟩

/-- The next village's list has been copied and stored. -/
theorem Copying.next (h : Copying w A c wr k vm vv ls) {g cap : Nat} (hv : vv = .slice (some ⟨g, 0, none⟩) c.villages.length cap) (hg : w.heap.size + 2 ≤ g) (hk : k < c.villages.length) {w' : World} {u : Value} (hB : Below wr.heap.size wr w') (hu : Ints (fun b => wr.heap.size ≤ b) w' u c.villages[k].likes) :
    Copying w A c (w'.setCell ⟨g, k * 3 + 2, none⟩ u) (k + 1) vm vv (ls.set k u) := by
  subst hv
  have h2 := h.step hB
  have hz := h.size
  have hgl := (World.ownsRow.lt h.ov g rfl).2
  have hll := h2.ll
  have hoth : ∀ i, i ≠ g → (w'.setCell ⟨g, k * 3 + 2, none⟩ u).heap[i]? = w'.heap[i]? := fun i hi => Below.heap_setCell _ _ _ _ (show i ≠ g from hi)
  have hszz : (w'.setCell ⟨g, k * 3 + 2, none⟩ u).heap.size = w'.heap.size := by simp [World.setCell]
  have hgen : ∀ (D : Nat → Prop) (v : Value) (l : List Int), Ints D w' v l → (∀ b, D b → b ≠ g) → Ints D (w'.setCell ⟨g, k * 3 + 2, none⟩ u) v l := fun D v l hi hd => hi.step (by omega) fun b hb _ => hoth b (hd b hb)
  have hne : ∀ b : Nat, (Value.slice (some ⟨g, 0, none⟩) c.villages.length cap).ownBlock ≠ some b → b ≠ g := fun b hb e => hb (by rw [e]; rfl)
  refine ⟨?_, ?_, hgen _ _ _ h2.im fun b hb => hne b hb.2, ?_, by simpa using hll, ?_, ?_, h2.below.setCell (by show w.heap.size ≤ g; omega) _⟩
  · rw [hoth _ (by omega)]; exact h2.box
  · rw [hoth _ (by omega)]; exact h2.res
  · have := (World.ownsRow.stored h2.ov (k * 3 + 2) u).1
    rw [vcells_set c.villages ls hll k hk u] at this
    exact this
  · intro i a b
    simp only [List.getElem_set]
    split
    · rename_i e
      subst e
      exact hgen _ _ _ (hu.wide fun b hb _ => .inr ⟨by omega, fun e => by simp only [Value.ownBlock, Option.some.injEq] at e; omega⟩) fun b hb => by
        rcases hb with hb | hb
        · omega
        · exact hne b hb.2
    · exact hgen _ _ _ (h2.li i (by simpa using a) b) fun b hb => by
        rcases hb with hb | hb
        · omega
        · exact hne b hb.2
  · intro i a b hi
    simp only [List.getElem_set]
    split
    · rename_i e
      subst e
      exact hgen _ _ _ (hu.wide fun b hb _ => ⟨by omega, fun e => by simp only [Value.ownBlock, Option.some.injEq] at e; omega⟩) fun b hb => hne b hb.2
    · exact hgen _ _ _ (h2.lk i (by simpa using a) b (by omega)) fun b hb => hne b hb.2
end

theorem copying_start {w w5 w6 : World} {A : Nat → Prop} {c : Com} {x y vm' vv' : Value} {gb : Nat} {ls0 : List Value} (hB : Below w.heap.size w w5) (hsz : w.heap.size + 2 ≤ w5.heap.size)
    (hx : Box2 w.heap.size x y 25 w5) (hr : Box2 (w.heap.size + 1) (.slice none 0 0) (.slice none 0 0) 25 w5)
    (hi : Ints (fun b => w.heap.size + 2 ≤ b ∧ b < w5.heap.size ∧ b ≠ gb) w5 vm' c.mountains) (hoe : Own (w.heap.size + 2) w5 43 3 (.slice (some ⟨gb, 0, none⟩) 0 0) 0 [])
    (hl0 : ls0.length = c.villages.length) (hi0 : ∀ i (a : i < ls0.length) (b : i < c.villages.length), Ints (fun b => A b ∧ b < w.heap.size) w5 ls0[i] c.villages[i].likes)
    (hown : Own (w.heap.size + 2) w6 43 3 vv' c.villages.length (vcells c.villages ls0)) (hT : Turned w5 w6 (.slice (some ⟨gb, 0, none⟩) 0 0) vv') :
    Copying w A c ((w6.setCell ⟨w.heap.size, 0, none⟩ vm').setCell ⟨w.heap.size, 1, none⟩ vv') 0 vm' vv' ls0 := by
  have hgb := World.ownsRow.lt hoe gb rfl
  have hs6 := hT.size
  have hoth : ∀ i, i ≠ w.heap.size → ((w6.setCell ⟨w.heap.size, 0, none⟩ vm').setCell ⟨w.heap.size, 1, none⟩ vv').heap[i]? = w6.heap[i]? := fun i hi =>
    (Below.heap_setCell _ _ _ _ (show i ≠ w.heap.size from hi)).trans (Below.heap_setCell _ _ _ _ (show i ≠ w.heap.size from hi))
  have hoth5 : ∀ i, i ≠ w.heap.size → i < w5.heap.size → i ≠ gb → ((w6.setCell ⟨w.heap.size, 0, none⟩ vm').setCell ⟨w.heap.size, 1, none⟩ vv').heap[i]? = w5.heap[i]? := fun i h1 h2 h3 =>
    (hoth i h1).trans (hT.block i h2 (fun e => by simp only [Value.ownBlock, Option.some.injEq] at e; omega))
  have hszz : ((w6.setCell ⟨w.heap.size, 0, none⟩ vm').setCell ⟨w.heap.size, 1, none⟩ vv').heap.size = w6.heap.size := by simp [World.setCell]
  have hpl : ∀ b, b < w5.heap.size → b ≠ gb → vv'.ownBlock ≠ some b := fun b h1 h2 e => by
    rcases hT.place with e2 | e2
    · rw [e2] at e; simp only [Value.ownBlock, Option.some.injEq] at e; omega
    · rw [e2] at e; injection e with e; omega
  refine ⟨?_, ?_, ?_, ?_, hl0, fun i a b => ?_, fun i a b h => by omega, ?_⟩
  · refine two_set (x := x) (y := y) ?_ vm' vv'
    rw [hT.block _ (by omega) (fun e => by simp only [Value.ownBlock, Option.some.injEq] at e; omega)]
    exact hx
  · rw [hoth5 _ (by omega) (by omega) (by omega)]; exact hr
  · exact (hi.step (by omega) fun b hb _ => hoth5 b (by omega) hb.2.1 hb.2.2).wide fun b hb _ => ⟨hb.1, hpl b hb.2.1 hb.2.2⟩
  · exact Own.step hown fun b _ h1 _ => hoth b (by omega)
  · exact ((hi0 i a b).step (by omega) fun b hb _ => hoth5 b (by omega) (by omega) (by omega)).wide fun b hb _ => .inl hb
  · exact ((hT.below2 hoe hB (by omega) (by omega)).setCell (Nat.le_refl _) _).setCell (Nat.le_refl _) _

theorem own_from {B B' : Nat} {w : World} {e : TypeId} {sz n : Nat} {v : Value} {xs : List Value} (h : Own B w e sz v n xs) (hB : B' ≤ B) : Own B' w e sz v n xs := by
  refine ⟨h.1, ?_⟩
  rcases h.2 with hn | ⟨g, cap, cur, rfl, h0, hg, rest⟩
  · exact .inl hn
  · exact .inr ⟨g, cap, cur, rfl, Nat.le_trans hB h0, hg, rest⟩
theorem one_set0 {w : World} {b : Nat} {x y : Value} {t : TypeId} (h : Box2 b x y t w) (u : Value) : Box2 b u y t (w.setCell ⟨b, 0, none⟩ u) := by
  unfold Box2 at *
  simp only [World.setCell, Array.getElem?_modify, h]
  simp

end Go.Proofs.YtmlikgjfpmjdcaaGreatDoor

/- The contract of SameCommons; conditions: none. -/
namespace Go.Proofs.YtmlikgjfpmjdcaaGreatDoor
open Go.RowKit

/-- A village's three cells. -/
def Vil3 (b o : Nat) (v : Vil) (p : Option Addr) (d : Nat) (w : World) : Prop :=
  w.cell? ⟨b, o, none⟩ = some (.int .i64 v.hearths) ∧ w.cell? ⟨b, o + 1, none⟩ = some (.int .i64 v.herd) ∧ w.cell? ⟨b, o + 2, none⟩ = some (.slice p v.likes.length d)
theorem Vil3.keep {b o : Nat} {v : Vil} {p : Option Addr} {d : Nat} {w w' : World} (h : Vil3 b o v p d w) (hb : w'.heap[b]? = w.heap[b]?) : Vil3 b o v p d w' :=
  ⟨(World.cell?_of_block (a := ⟨b, o, none⟩) hb).trans h.1, (World.cell?_of_block (a := ⟨b, o + 1, none⟩) hb).trans h.2.1, (World.cell?_of_block (a := ⟨b, o + 2, none⟩) hb).trans h.2.2⟩
theorem Vil3.below {b o : Nat} {v : Vil} {p : Option Addr} {d B : Nat} {w w' : World} (h : Vil3 b o v p d w) (hB : Below B w w') (hb : b < B) : Vil3 b o v p d w' := h.keep (hB.block b hb)
theorem Box2.keep {b : Nat} {x y : Value} {t : TypeId} {w w' : World} (h : Box2 b x y t w) (hb : w'.heap[b]? = w.heap[b]?) : Box2 b x y t w' := hb.trans h
theorem Box2.below {b B : Nat} {x y : Value} {t : TypeId} {w w' : World} (h : Box2 b x y t w) (hB : Below B w w') (hb : b < B) : Box2 b x y t w' := h.keep (hB.block b hb)
/-- A block known whole. -/
def Blk (b : Nat) (c : Array Value) (t : TypeId) (w : World) : Prop := w.heap[b]? = some (.cells c t (0, 0))
theorem Blk.keep {b : Nat} {c : Array Value} {t : TypeId} {w w' : World} (h : Blk b c t w) (hb : w'.heap[b]? = w.heap[b]?) : Blk b c t w' := hb.trans h
theorem Blk.cell {b : Nat} {c : Array Value} {t : TypeId} {w : World} (h : Blk b c t w) (j : Nat) : w.cell? ⟨b, j, none⟩ = c[j]? := by
  unfold Blk at h
  rw [World.cell?, h]
  rfl
theorem Blk.free {b : Nat} {c : Array Value} {t : TypeId} {w : World} (h : Blk b c t w) (j : Nat) : w.frozen? ⟨b, j, none⟩ = false := by
  unfold Blk at h
  rw [World.frozen?, h]
  simp
theorem Blk.set {b : Nat} {c : Array Value} {t : TypeId} {w : World} (h : Blk b c t w) (j : Nat) (v : Value) : Blk b (c.setIfInBounds j v) t (w.setCell ⟨b, j, none⟩ v) := by
  unfold Blk at *
  simp only [World.setCell, Array.getElem?_modify, h]
  simp
theorem Blk.new (w : World) (c : Array Value) (t : TypeId) : Blk w.heap.size c t (w.alloc (.cells c t)) := heap_alloc_new w _
theorem Blk.lt {b : Nat} {c : Array Value} {t : TypeId} {w : World} (h : Blk b c t w) : b < w.heap.size := (Array.getElem?_eq_some_iff.1 h).1
theorem Blk.below {b B : Nat} {c : Array Value} {t : TypeId} {w w' : World} (h : Blk b c t w) (hB : Below B w w') (hb : b < B) : Blk b c t w' := h.keep (hB.block b hb)
theorem Blk.call {b : Nat} {c : Array Value} {t : TypeId} {w w' : World} (h : Blk b c t w) (hB : Below w.heap.size w w') : Blk b c t w' := h.below hB h.lt
theorem Blk.other {b : Nat} {c : Array Value} {t : TypeId} {w : World} (h : Blk b c t w) {a : Addr} (ha : b ≠ a.block) (u : Value) : Blk b c t (w.setCell a u) := h.keep (Below.heap_setCell w a u b ha)
theorem Blk.alloc {b : Nat} {c : Array Value} {t : TypeId} {w : World} (h : Blk b c t w) (o : Obj) : Blk b c t (w.alloc o) := h.keep (Below.heap_alloc w o b h.lt)

/-- Storing three cells. -/
theorem Blk.set3 {b : Nat} {x y z x' y' z' : Value} {t : TypeId} {w : World} (h : Blk b #[x, y, z] t w) : Blk b #[x', y', z'] t (((w.setCell ⟨b, 0, none⟩ x').setCell ⟨b, 1, none⟩ y').setCell ⟨b, 2, none⟩ z') :=
  ((h.set 0 x').set 1 y').set 2 z'

theorem vil_ext {v1 v2 : Vil} (h1 : v1.hearths = v2.hearths) (h2 : v1.herd = v2.herd) (h3 : v1.likes = v2.likes) : v1 = v2 := by
  cases v1; cases v2; simp_all
theorem com_ext {c1 c2 : Com} (h1 : c1.mountains = c2.mountains) (h2 : c1.villages = c2.villages) : c1 = c2 := by
  cases c1; cases c2; simp_all

set_option maxRecDepth 100000 in
set_option maxHeartbeats 2000000 in
theorem sameCommons_c {A A' : Nat → Prop} {w : World} {vm1 vv1 vm2 vv2 : Value} {c1 c2 : Com} (h1 : Cm A w vm1 vv1 c1) (h2 : Cm A' w vm2 vv2 c2) :
    Calls Tryz.prog 14 #[.agg #[vm1, vv1], .agg #[vm2, vv2]] w fun e w' => e = .returned (.bool (decide (c1 = c2))) ∧ Below w.heap.size w w' := by
  obtain ⟨am1, cm1, rfl, _, _⟩ := h1.1.shape
  obtain ⟨av1, cv1, rfl, _, _⟩ := h1.2.shape
  obtain ⟨am2, cm2, rfl, _, _⟩ := h2.1.shape
  obtain ⟨av2, cv2, rfl, _, _⟩ := h2.2.shape
  have n1 := h1.2.len
  have n2 := h2.2.len
  have hB0 : Below w.heap.size w ((w.alloc (.cells #[.slice am1 c1.mountains.length cm1, .slice av1 c1.villages.length cv1] 25)).alloc (.cells #[.slice am2 c2.mountains.length cm2, .slice av2 c2.villages.length cv2] 25)) := ((Below.refl _ w).alloc (Nat.le_refl _) _).alloc (by simp) _
  have hx1 : Box2 w.heap.size (.slice am1 c1.mountains.length cm1) (.slice av1 c1.villages.length cv1) 25 ((w.alloc (.cells #[.slice am1 c1.mountains.length cm1, .slice av1 c1.villages.length cv1] 25)).alloc (.cells #[.slice am2 c2.mountains.length cm2, .slice av2 c2.villages.length cv2] 25)) :=
    Blk.alloc (Blk.new w _ _) _
  have hx2 : Box2 (w.heap.size + 1) (.slice am2 c2.mountains.length cm2) (.slice av2 c2.villages.length cv2) 25 ((w.alloc (.cells #[.slice am1 c1.mountains.length cm1, .slice av1 c1.villages.length cv1] 25)).alloc (.cells #[.slice am2 c2.mountains.length cm2, .slice av2 c2.villages.length cv2] 25)) := by
    have := Blk.new (w.alloc (.cells #[.slice am1 c1.mountains.length cm1, .slice av1 c1.villages.length cv1] 25)) #[.slice am2 c2.mountains.length cm2, .slice av2 c2.villages.length cv2] 25
    rwa [World.size_alloc] at this
  have hsz : w.heap.size + 2 ≤ ((w.alloc (.cells #[.slice am1 c1.mountains.length cm1, .slice av1 c1.villages.length cv1] 25)).alloc (.cells #[.slice am2 c2.mountains.length cm2, .slice av2 c2.villages.length cv2] 25)).heap.size := by simp
  go_enter Tryz.func14, Tryz.ntmps14
  go_upto_region 1 with fail
  generalize (w.alloc (.cells #[.slice am1 c1.mountains.length cm1, .slice av1 c1.villages.length cv1] 25)).alloc (.cells #[.slice am2 c2.mountains.length cm2, .slice av2 c2.villages.length cv2] 25) = w0 at hB0 hx1 hx2 hsz ⊢
  have k1 := h1.call hB0
  have k2 := h2.call hB0
  by_cases hm : c1.mountains = c2.mountains
  · have hmb : (c1.mountains == c2.mountains) = true := by simpa using hm
    have HM := Lib.hid hm; clear hm
    by_cases hl : c1.villages.length = c2.villages.length
    · have hd : (((c1.villages.length : Int)) != (c2.villages.length : Int)) = false := by simp; omega
      have HL := Lib.hid hl; clear hl
      obtain ⟨x0, x1, _, _⟩ := cells2_at hx1
      obtain ⟨y0, y1, _, _⟩ := cells2_at hx2
      go_wp2_with fail
      refine (sameInts_q k1.1 k2.1).mono ?_
      rintro e w2 ⟨rfl, hq2⟩
      have hB2 := hB0.trans (hq2.below w.heap.size)
      have hBq := hq2.below (w.heap.size + 2)
      replace hx1 : Box2 w.heap.size (.slice am1 c1.mountains.length cm1) (.slice av1 c1.villages.length cv1) 25 w2 := hx1.below hBq (by omega)
      replace hx2 : Box2 (w.heap.size + 1) (.slice am2 c2.mountains.length cm2) (.slice av2 c2.villages.length cv2) 25 w2 := hx2.below hBq (by omega)
      replace k1 := k1.qt hq2
      replace k2 := k2.qt hq2
      replace hsz : w.heap.size + 2 ≤ w2.heap.size := by have := hq2.size; omega
      clear x0 x1 y0 y1 hBq hq2 hB0
      obtain ⟨x0, x1, _, _⟩ := cells2_at hx1
      obtain ⟨y0, y1, _, _⟩ := cells2_at hx2
      go_wp2
      go_loopw [5] (fun i wr => ∃ j : Nat, i = .int .i64 j ∧ j ≤ c1.villages.length ∧ (∀ i (a : i < c1.villages.length) (b : i < c2.villages.length), i < j → c1.villages[i] = c2.villages[i]) ∧ Below w2.heap.size w2 wr) (fun i _ => c1.villages.length - (intOf i).toNat)
      case atStart => exact ⟨0, rfl, by omega, by omega, Below.refl _ _⟩
      case round =>
        obtain ⟨j, rfl, hj, hpre, hBr⟩ := hrel
        have HP := Lib.hid hpre; clear hpre
        have hx1' := hx1.below hBr (by omega)
        have hx2' := hx2.below hBr (by omega)
        obtain ⟨r0, r1, _, _⟩ := cells2_at hx1'
        by_cases hjn : j < c1.villages.length
        · have hjn2 : j < c2.villages.length := by have := HL.out; omega
          have k1' := k1.2.call hBr
          have k2' := k2.2.call hBr
          obtain ⟨b1, o1, rfl, _, hb1⟩ := k1.2.addr (by omega)
          obtain ⟨b2, o2, rfl, _, hb2⟩ := k2.2.addr (by omega)
          obtain ⟨p1, d1, g11, g12, g13, i1⟩ := k1'.at j hjn
          obtain ⟨p2, d2, g21, g22, g23, i2⟩ := k2'.at j hjn2
          obtain ⟨v1, hv1⟩ : ∃ v, v = c1.villages[j] := ⟨_, rfl⟩
          obtain ⟨v2, hv2⟩ : ∃ v, v = c2.villages[j] := ⟨_, rfl⟩
          rw [← hv1] at g11 g12 g13 i1
          rw [← hv2] at g21 g22 g23 i2
          have HV1 := Lib.hid hv1; clear hv1
          have HV2 := Lib.hid hv2; clear hv2
          have hbr1 : b1 < wr.heap.size := by have := hBr.size; omega
          have hbr2 : b2 < wr.heap.size := by have := hBr.size; omega
          have hsr : w.heap.size + 2 ≤ wr.heap.size := by have := hBr.size; omega
          have hvl1 : Vil3 b1 (o1 + j * 3) v1 p1 d1 wr := ⟨g11, g12, g13⟩
          have hvl2 : Vil3 b2 (o2 + j * 3) v2 p2 d2 wr := ⟨g21, g22, g23⟩
          go_upto_region 6 with fail
          go_cut [6, 7] (fun s6 s7 wx => ∃ g1 g2, s6 = .pointer (some ⟨g1, 0, none⟩) ∧ s7 = .pointer (some ⟨g2, 0, none⟩) ∧ Blk g1 #[.int .i64 v1.hearths, .int .i64 v1.herd, .slice p1 v1.likes.length d1] 43 wx ∧ Blk g2 #[.int .i64 v2.hearths, .int .i64 v2.herd, .slice p2 v2.likes.length d2] 43 wx ∧ Below wr.heap.size wr wx)
          case first =>
            refine wp_region_mix (.one 0 (.one 1 (.one 2 (.one 3 (.one 4 (.one 5 (.one 6 (.one 7 (.one 8 (.one 9 (.two 10 (.act 11 (.act 12 (.act 13 .fin))) 11 (.act 10 (.act 12 (.act 13 .fin)))))))))))))) 13 (Both (Both (Box2 w.heap.size (.slice am1 c1.mountains.length cm1) (.slice (some ⟨b1, o1, none⟩) c1.villages.length cv1) 25) (Vil3 b1 (o1 + j * 3) v1 p1 d1)) (Both (Box2 (w.heap.size + 1) (.slice am2 c2.mountains.length cm2) (.slice (some ⟨b2, o2, none⟩) c2.villages.length cv2) 25) (Vil3 b2 (o2 + j * 3) v2 p2 d2))) (fun _ => True) (by kernel_rfl) (by kernel_rfl) rfl (by kernel_rfl) ⟨⟨hx1', hvl1⟩, ⟨hx2', hvl2⟩⟩ (fun w1 hq1 _ => ?_)
            have hB1 := hq1.below wr.heap.size
            refine mix_pure rfl (fun K hK => ?_)
            go_simp
            refine ⟨_, fun _ _ => rfl, hK _ ?_⟩
            clear hK K
            refine mix_load rfl rfl rfl (.slice (some ⟨b1, o1, none⟩) c1.villages.length cv1) (fun w' h => by have h : (Both (Both (Box2 w.heap.size (.slice am1 c1.mountains.length cm1) (.slice (some ⟨b1, o1, none⟩) c1.villages.length cv1) 25) (Vil3 b1 (o1 + j * 3) v1 p1 d1)) (Both (Box2 (w.heap.size + 1) (.slice am2 c2.mountains.length cm2) (.slice (some ⟨b2, o2, none⟩) c2.villages.length cv2) 25) (Vil3 b2 (o2 + j * 3) v2 p2 d2))) w' := h; have h := h.1.1.c1; go_simp) rfl ?_
            refine mix_pure rfl (fun K hK => ?_)
            go_simp
            refine ⟨_, fun _ _ => rfl, hK _ ?_⟩
            clear hK K
            refine mix_pure rfl (fun K hK => ?_)
            go_simp
            refine ⟨_, fun _ _ => rfl, hK _ ?_⟩
            clear hK K
            refine mix_load rfl rfl rfl (.agg #[.int .i64 v1.hearths, .int .i64 v1.herd, .slice p1 v1.likes.length d1]) (fun w' h => by have h : (Both (Both (Box2 w.heap.size (.slice am1 c1.mountains.length cm1) (.slice (some ⟨b1, o1, none⟩) c1.villages.length cv1) 25) (Vil3 b1 (o1 + j * 3) v1 p1 d1)) (Both (Box2 (w.heap.size + 1) (.slice am2 c2.mountains.length cm2) (.slice (some ⟨b2, o2, none⟩) c2.villages.length cv2) 25) (Vil3 b2 (o2 + j * 3) v2 p2 d2))) w' := h; obtain ⟨h1, h2, h3⟩ := h.1.2; go_simp) rfl ?_
            refine mix_pure rfl (fun K hK => ?_)
            go_simp
            refine ⟨_, fun _ _ => rfl, hK _ ?_⟩
            clear hK K
            refine mix_load rfl rfl rfl (.slice (some ⟨b2, o2, none⟩) c2.villages.length cv2) (fun w' h => by have h : (Both (Both (Box2 w.heap.size (.slice am1 c1.mountains.length cm1) (.slice (some ⟨b1, o1, none⟩) c1.villages.length cv1) 25) (Vil3 b1 (o1 + j * 3) v1 p1 d1)) (Both (Box2 (w.heap.size + 1) (.slice am2 c2.mountains.length cm2) (.slice (some ⟨b2, o2, none⟩) c2.villages.length cv2) 25) (Vil3 b2 (o2 + j * 3) v2 p2 d2))) w' := h; have h := h.2.1.c1; go_simp) rfl ?_
            refine mix_pure rfl (fun K hK => ?_)
            go_simp
            refine ⟨_, fun _ _ => rfl, hK _ ?_⟩
            clear hK K
            refine mix_pure rfl (fun K hK => ?_)
            go_simp
            refine ⟨_, fun _ _ => rfl, hK _ ?_⟩
            clear hK K
            refine mix_load rfl rfl rfl (.agg #[.int .i64 v2.hearths, .int .i64 v2.herd, .slice p2 v2.likes.length d2]) (fun w' h => by have h : (Both (Both (Box2 w.heap.size (.slice am1 c1.mountains.length cm1) (.slice (some ⟨b1, o1, none⟩) c1.villages.length cv1) 25) (Vil3 b1 (o1 + j * 3) v1 p1 d1)) (Both (Box2 (w.heap.size + 1) (.slice am2 c2.mountains.length cm2) (.slice (some ⟨b2, o2, none⟩) c2.villages.length cv2) 25) (Vil3 b2 (o2 + j * 3) v2 p2 d2))) w' := h; obtain ⟨h1, h2, h3⟩ := h.2.2; go_simp) rfl ?_
            refine mix_two rfl rfl false false rfl rfl (fun K hK => ?_) (fun K hK => ?_)
            · go_simp
              have hB3 := hB1.alloc (by have := hB1.size; omega) (.cells #[.int .i64 0, .int .i64 0, .slice none 0 0] 43)
              refine hK _ _ ⟨⟨hx1'.below hB3 (by omega), hvl1.below hB3 hbr1⟩, ⟨hx2'.below hB3 (by omega), hvl2.below hB3 hbr2⟩⟩ ?_
              clear hK K
              refine mix_eff rfl false rfl (fun K hK => ?_)
              go_simp
              have hB4 := hB3.alloc (by have := hB3.size; omega) (.cells #[.int .i64 0, .int .i64 0, .slice none 0 0] 43)
              have hA := Blk.alloc (Blk.new w1 #[.int .i64 0, .int .i64 0, .slice none 0 0] 43) (.cells #[.int .i64 0, .int .i64 0, .slice none 0 0] 43)
              have hC := Blk.new (w1.alloc (.cells #[.int .i64 0, .int .i64 0, .slice none 0 0] 43)) #[.int .i64 0, .int .i64 0, .slice none 0 0] 43
              rw [World.size_alloc] at hC
              have hsw : wr.heap.size ≤ w1.heap.size := hB1.size
              refine hK _ _ ⟨⟨hx1'.below hB4 (by omega), hvl1.below hB4 hbr1⟩, ⟨hx2'.below hB4 (by omega), hvl2.below hB4 hbr2⟩⟩ ?_
              clear hK K
              generalize (w1.alloc (.cells #[.int .i64 0, .int .i64 0, .slice none 0 0] 43)).alloc (.cells #[.int .i64 0, .int .i64 0, .slice none 0 0] 43) = w4 at hB4 hA hC ⊢
              refine mix_eff rfl false rfl (fun K hK => ?_)
              have q0 := hA.cell 0
              have q1 := hA.cell 1
              have q2 := hA.cell 2
              have f0 := hA.free 0
              have f1 := hA.free 1
              have f2 := hA.free 2
              have hB5 := ((hB4.setCell (p := ⟨w1.heap.size, 0, none⟩) (by show wr.heap.size ≤ w1.heap.size; omega) (.int .i64 v1.hearths)).setCell (p := ⟨w1.heap.size, 1, none⟩) (by show wr.heap.size ≤ w1.heap.size; omega) (.int .i64 v1.herd)).setCell (p := ⟨w1.heap.size, 2, none⟩) (by show wr.heap.size ≤ w1.heap.size; omega) (.slice p1 v1.likes.length d1)
              have hA5 := hA.set3 (x' := .int .i64 v1.hearths) (y' := .int .i64 v1.herd) (z' := .slice p1 v1.likes.length d1)
              have hC5 := ((hC.other (a := ⟨w1.heap.size, 0, none⟩) (by show (w1.heap.size + 1) ≠ w1.heap.size; omega) (.int .i64 v1.hearths)).other (a := ⟨w1.heap.size, 1, none⟩) (by show (w1.heap.size + 1) ≠ w1.heap.size; omega) (.int .i64 v1.herd)).other (a := ⟨w1.heap.size, 2, none⟩) (by show (w1.heap.size + 1) ≠ w1.heap.size; omega) (.slice p1 v1.likes.length d1)
              go_simp
              refine hK _ _ ⟨⟨hx1'.below hB5 (by omega), hvl1.below hB5 hbr1⟩, ⟨hx2'.below hB5 (by omega), hvl2.below hB5 hbr2⟩⟩ ?_
              clear hK K
              generalize ((w4.setCell ⟨w1.heap.size, 0, none⟩ (.int .i64 v1.hearths)).setCell ⟨w1.heap.size, 1, none⟩ (.int .i64 v1.herd)).setCell ⟨w1.heap.size, 2, none⟩ (.slice p1 v1.likes.length d1) = w5 at hB5 hA5 hC5 ⊢
              refine mix_eff rfl true rfl (fun K hK => ?_)
              have q0 := hC5.cell 0
              have q1 := hC5.cell 1
              have q2 := hC5.cell 2
              have f0 := hC5.free 0
              have f1 := hC5.free 1
              have f2 := hC5.free 2
              have hB6 := ((hB5.setCell (p := ⟨(w1.heap.size + 1), 0, none⟩) (by show wr.heap.size ≤ (w1.heap.size + 1); omega) (.int .i64 v2.hearths)).setCell (p := ⟨(w1.heap.size + 1), 1, none⟩) (by show wr.heap.size ≤ (w1.heap.size + 1); omega) (.int .i64 v2.herd)).setCell (p := ⟨(w1.heap.size + 1), 2, none⟩) (by show wr.heap.size ≤ (w1.heap.size + 1); omega) (.slice p2 v2.likes.length d2)
              have hC6 := hC5.set3 (x' := .int .i64 v2.hearths) (y' := .int .i64 v2.herd) (z' := .slice p2 v2.likes.length d2)
              have hA6 := ((hA5.other (a := ⟨(w1.heap.size + 1), 0, none⟩) (by show w1.heap.size ≠ (w1.heap.size + 1); omega) (.int .i64 v2.hearths)).other (a := ⟨(w1.heap.size + 1), 1, none⟩) (by show w1.heap.size ≠ (w1.heap.size + 1); omega) (.int .i64 v2.herd)).other (a := ⟨(w1.heap.size + 1), 2, none⟩) (by show w1.heap.size ≠ (w1.heap.size + 1); omega) (.slice p2 v2.likes.length d2)
              go_simp
              refine hK _ _ trivial ?_
              clear hK K
              refine mix_done ?_
              go_wp2_with fail
              go_meet
              exact ⟨_, _, rfl, rfl, hA6, hC6, hB6⟩
            · go_simp
              have hB3 := hB1.alloc (by have := hB1.size; omega) (.cells #[.int .i64 0, .int .i64 0, .slice none 0 0] 43)
              refine hK _ _ ⟨⟨hx1'.below hB3 (by omega), hvl1.below hB3 hbr1⟩, ⟨hx2'.below hB3 (by omega), hvl2.below hB3 hbr2⟩⟩ ?_
              clear hK K
              refine mix_eff rfl false rfl (fun K hK => ?_)
              go_simp
              have hB4 := hB3.alloc (by have := hB3.size; omega) (.cells #[.int .i64 0, .int .i64 0, .slice none 0 0] 43)
              have hA := Blk.alloc (Blk.new w1 #[.int .i64 0, .int .i64 0, .slice none 0 0] 43) (.cells #[.int .i64 0, .int .i64 0, .slice none 0 0] 43)
              have hC := Blk.new (w1.alloc (.cells #[.int .i64 0, .int .i64 0, .slice none 0 0] 43)) #[.int .i64 0, .int .i64 0, .slice none 0 0] 43
              rw [World.size_alloc] at hC
              have hsw : wr.heap.size ≤ w1.heap.size := hB1.size
              refine hK _ _ ⟨⟨hx1'.below hB4 (by omega), hvl1.below hB4 hbr1⟩, ⟨hx2'.below hB4 (by omega), hvl2.below hB4 hbr2⟩⟩ ?_
              clear hK K
              generalize (w1.alloc (.cells #[.int .i64 0, .int .i64 0, .slice none 0 0] 43)).alloc (.cells #[.int .i64 0, .int .i64 0, .slice none 0 0] 43) = w4 at hB4 hA hC ⊢
              refine mix_eff rfl false rfl (fun K hK => ?_)
              have q0 := hC.cell 0
              have q1 := hC.cell 1
              have q2 := hC.cell 2
              have f0 := hC.free 0
              have f1 := hC.free 1
              have f2 := hC.free 2
              have hB5 := ((hB4.setCell (p := ⟨(w1.heap.size + 1), 0, none⟩) (by show wr.heap.size ≤ (w1.heap.size + 1); omega) (.int .i64 v1.hearths)).setCell (p := ⟨(w1.heap.size + 1), 1, none⟩) (by show wr.heap.size ≤ (w1.heap.size + 1); omega) (.int .i64 v1.herd)).setCell (p := ⟨(w1.heap.size + 1), 2, none⟩) (by show wr.heap.size ≤ (w1.heap.size + 1); omega) (.slice p1 v1.likes.length d1)
              have hA5 := hC.set3 (x' := .int .i64 v1.hearths) (y' := .int .i64 v1.herd) (z' := .slice p1 v1.likes.length d1)
              have hC5 := ((hA.other (a := ⟨(w1.heap.size + 1), 0, none⟩) (by show w1.heap.size ≠ (w1.heap.size + 1); omega) (.int .i64 v1.hearths)).other (a := ⟨(w1.heap.size + 1), 1, none⟩) (by show w1.heap.size ≠ (w1.heap.size + 1); omega) (.int .i64 v1.herd)).other (a := ⟨(w1.heap.size + 1), 2, none⟩) (by show w1.heap.size ≠ (w1.heap.size + 1); omega) (.slice p1 v1.likes.length d1)
              go_simp
              refine hK _ _ ⟨⟨hx1'.below hB5 (by omega), hvl1.below hB5 hbr1⟩, ⟨hx2'.below hB5 (by omega), hvl2.below hB5 hbr2⟩⟩ ?_
              clear hK K
              generalize ((w4.setCell ⟨(w1.heap.size + 1), 0, none⟩ (.int .i64 v1.hearths)).setCell ⟨(w1.heap.size + 1), 1, none⟩ (.int .i64 v1.herd)).setCell ⟨(w1.heap.size + 1), 2, none⟩ (.slice p1 v1.likes.length d1) = w5 at hB5 hA5 hC5 ⊢
              refine mix_eff rfl true rfl (fun K hK => ?_)
              have q0 := hC5.cell 0
              have q1 := hC5.cell 1
              have q2 := hC5.cell 2
              have f0 := hC5.free 0
              have f1 := hC5.free 1
              have f2 := hC5.free 2
              have hB6 := ((hB5.setCell (p := ⟨w1.heap.size, 0, none⟩) (by show wr.heap.size ≤ w1.heap.size; omega) (.int .i64 v2.hearths)).setCell (p := ⟨w1.heap.size, 1, none⟩) (by show wr.heap.size ≤ w1.heap.size; omega) (.int .i64 v2.herd)).setCell (p := ⟨w1.heap.size, 2, none⟩) (by show wr.heap.size ≤ w1.heap.size; omega) (.slice p2 v2.likes.length d2)
              have hC6 := hC5.set3 (x' := .int .i64 v2.hearths) (y' := .int .i64 v2.herd) (z' := .slice p2 v2.likes.length d2)
              have hA6 := ((hA5.other (a := ⟨w1.heap.size, 0, none⟩) (by show (w1.heap.size + 1) ≠ w1.heap.size; omega) (.int .i64 v2.hearths)).other (a := ⟨w1.heap.size, 1, none⟩) (by show (w1.heap.size + 1) ≠ w1.heap.size; omega) (.int .i64 v2.herd)).other (a := ⟨w1.heap.size, 2, none⟩) (by show (w1.heap.size + 1) ≠ w1.heap.size; omega) (.slice p2 v2.likes.length d2)
              go_simp
              refine hK _ _ trivial ?_
              clear hK K
              refine mix_done ?_
              go_wp2_with fail
              go_meet
              exact ⟨_, _, rfl, rfl, hA6, hC6, hB6⟩
          case rest =>
            obtain ⟨g1, g2, rfl, rfl, hg1, hg2, hBx⟩ := hcut
            have z10 := hg1.cell 0
            have z11 := hg1.cell 1
            have z12 := hg1.cell 2
            have z20 := hg2.cell 0
            have z21 := hg2.cell 1
            have z22 := hg2.cell 2
            have hBf := hB2.trans ((hBr.mono (by omega)).trans (hBx.mono (by have := hBr.size; omega)))
            have i1' := i1.call hBx
            have i2' := i2.call hBx
            by_cases e1 : v1.hearths = v2.hearths
            · have b1 : (v1.hearths != v2.hearths) = false := by simpa using e1
              have E1 := Lib.hid e1; clear e1
              by_cases e2 : v1.herd = v2.herd
              · have b2 : (v1.herd != v2.herd) = false := by simpa using e2
                have E2 := Lib.hid e2; clear e2
                by_cases e3 : v1.likes = v2.likes
                · have b3 : (v1.likes == v2.likes) = true := by simpa using e3
                  have E3 := Lib.hid e3; clear e3
                  go_wp2_with fail
                  refine (sameInts_q i1' i2').mono ?_
                  rintro e w3 ⟨rfl, hq3⟩
                  go_wp2
                  go_roundw
                  case rel =>
                    refine ⟨j + 1, by go_num, by omega, fun i a b hi => ?_, (hBr.trans (hBx.mono hBr.size)).trans (hq3.below _)⟩
                    by_cases e : i = j
                    · subst e
                      rw [← HV1.out, ← HV2.out]
                      exact vil_ext E1.out E2.out E3.out
                    · exact HP.out i a b (by omega)
                  case measure => simp [intOf]; omega
                · have b3 : (v1.likes == v2.likes) = false := by simpa using e3
                  go_wp2_with fail
                  refine (sameInts_q i1' i2').mono ?_
                  rintro e w3 ⟨rfl, hq3⟩
                  go_wp2
                  go_ret
                  refine ⟨ret_bool ?_, hBf.trans (hq3.below _)⟩
                  symm
                  rw [decide_eq_false_iff_not]
                  rintro rfl
                  exact e3 (by rw [HV1.out, HV2.out])
              · have b2 : (v1.herd != v2.herd) = true := by simpa using e2
                go_wp2
                go_ret
                refine ⟨ret_bool ?_, hBf⟩
                symm
                rw [decide_eq_false_iff_not]
                rintro rfl
                exact e2 (by rw [HV1.out, HV2.out])
            · have b1 : (v1.hearths != v2.hearths) = true := by simpa using e1
              go_wp2
              go_ret
              refine ⟨ret_bool ?_, hBf⟩
              symm
              rw [decide_eq_false_iff_not]
              rintro rfl
              exact e1 (by rw [HV1.out, HV2.out])
        · go_wp2
          go_ret
          refine ⟨ret_bool ?_, hB2.trans (hBr.mono (by omega))⟩
          symm
          rw [decide_eq_true_iff]
          exact com_ext HM.out (List.ext_getElem HL.out fun i a b => HP.out i a b (by omega))
    · have hd : (((c1.villages.length : Int)) != (c2.villages.length : Int)) = true := by simp; omega
      obtain ⟨x0, x1, _, _⟩ := cells2_at hx1
      obtain ⟨y0, y1, _, _⟩ := cells2_at hx2
      go_wp2_with fail
      refine (sameInts_q k1.1 k2.1).mono ?_
      rintro e w2 ⟨rfl, hq2⟩
      have hBq := hq2.below (w.heap.size + 2)
      replace hx1 := hx1.below hBq (by omega)
      replace hx2 := hx2.below hBq (by omega)
      obtain ⟨x0, x1, _, _⟩ := cells2_at hx1
      obtain ⟨y0, y1, _, _⟩ := cells2_at hx2
      go_wp2
      go_ret
      refine ⟨ret_bool ?_, hB0.trans (hq2.below _)⟩
      symm
      rw [decide_eq_false_iff_not]
      rintro rfl
      exact hl rfl
  · have hmb : (c1.mountains == c2.mountains) = false := by simpa using hm
    obtain ⟨x0, x1, _, _⟩ := cells2_at hx1
    obtain ⟨y0, y1, _, _⟩ := cells2_at hx2
    go_wp2_with fail
    refine (sameInts_q k1.1 k2.1).mono ?_
    rintro e w2 ⟨rfl, hq2⟩
    go_wp2
    go_ret
    refine ⟨ret_bool ?_, hB0.trans (hq2.below _)⟩
    symm
    rw [decide_eq_false_iff_not]
    rintro rfl
    exact hm rfl

end Go.Proofs.YtmlikgjfpmjdcaaGreatDoor

