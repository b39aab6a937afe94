/- Blocks known whole, slices of elements of several cells, a range over a function that yields given values; conditions: as said. -/
import Derived.Test.YtbpfhoihfoojfaaGreatDoorMix2
import Derived.Test.YtbpfhoihfoojfaaGreatDoorHand2
import Derived.RangeFuncNested
import Derived.RangeFuncBound
import Derived.RangeFuncCalls
import Derived.RangeFuncLeaves
import Derived.Recover
import Derived.IntWalk
import Derived.Deep.DeepCutAuto
import Derived.Test.YtbpfhoihfoojfaaGreatDoorPla
namespace Go.Proofs.YtbpfhoihfoojfaaGreatDoor
open Go.RowKit

/-- A block known whole. -/
def Blk (b : Nat) (c : Array Value) (t : TypeId) (w : World) : Prop := w.heap[b]? = some (.cells c t (0, 0))
theorem Blk.keep {b : Nat} {c : Array Value} {t : TypeId} {w w' : World} (h : Blk b c t w) (hb : w'.heap[b]? = w.heap[b]?) : Blk b c t w' := hb.trans h
theorem Blk.cell {b : Nat} {c : Array Value} {t : TypeId} {w : World} (h : Blk b c t w) (j : Nat) : w.cell? ⟨b, j, none⟩ = c[j]? := by
  unfold Blk at h
  rw [World.cell?, h]
  rfl
theorem Blk.free {b : Nat} {c : Array Value} {t : TypeId} {w : World} (h : Blk b c t w) (j : Nat) : w.frozen? ⟨b, j, none⟩ = false := by
  unfold Blk at h
  rw [World.frozen?, h]
  simp
theorem Blk.set {b : Nat} {c : Array Value} {t : TypeId} {w : World} (h : Blk b c t w) (j : Nat) (v : Value) : Blk b (c.setIfInBounds j v) t (w.setCell ⟨b, j, none⟩ v) := by
  unfold Blk at *
  simp only [World.setCell, Array.getElem?_modify, h]
  simp
theorem Blk.new (w : World) (c : Array Value) (t : TypeId) : Blk w.heap.size c t (w.alloc (.cells c t)) := heap_alloc_new w _
theorem Blk.lt {b : Nat} {c : Array Value} {t : TypeId} {w : World} (h : Blk b c t w) : b < w.heap.size := (Array.getElem?_eq_some_iff.1 h).1
theorem Blk.below {b B : Nat} {c : Array Value} {t : TypeId} {w w' : World} (h : Blk b c t w) (hB : Below B w w') (hb : b < B) : Blk b c t w' := h.keep (hB.block b hb)
theorem Blk.call {b : Nat} {c : Array Value} {t : TypeId} {w w' : World} (h : Blk b c t w) (hB : Below w.heap.size w w') : Blk b c t w' := h.below hB h.lt
theorem Blk.other {b : Nat} {c : Array Value} {t : TypeId} {w : World} (h : Blk b c t w) {a : Addr} (ha : b ≠ a.block) (u : Value) : Blk b c t (w.setCell a u) := h.keep (Below.heap_setCell w a u b ha)
theorem Blk.alloc {b : Nat} {c : Array Value} {t : TypeId} {w : World} (h : Blk b c t w) (o : Obj) : Blk b c t (w.alloc o) := h.keep (Below.heap_alloc w o b h.lt)

/-- Storing three cells. -/
theorem Blk.set3 {b : Nat} {x y z x' y' z' : Value} {t : TypeId} {w : World} (h : Blk b #[x, y, z] t w) : Blk b #[x', y', z'] t (((w.setCell ⟨b, 0, none⟩ x').setCell ⟨b, 1, none⟩ y').setCell ⟨b, 2, none⟩ z') :=
  ((h.set 0 x').set 1 y').set 2 z'

/-- Only own blocks may have turned; and there may be new ones. -/
structure Keep (own : Nat → Prop) (w w' : World) : Prop where
  os : w'.os = w.os
  tape : w'.tape = w.tape
  output : w'.output = w.output
  size : w.heap.size ≤ w'.heap.size
  block : ∀ k, k < w.heap.size → ¬ own k → w'.heap[k]? = w.heap[k]?

theorem Keep.refl (own : Nat → Prop) (w : World) : Keep own w w := ⟨rfl, rfl, rfl, Nat.le_refl _, fun _ _ _ => rfl⟩
theorem Keep.trans {own : Nat → Prop} {a b c : World} (h : Keep own a b) (k : Keep own b c) : Keep own a c :=
  ⟨k.os.trans h.os, k.tape.trans h.tape, k.output.trans h.output, Nat.le_trans h.size k.size, fun i hi ho => (k.block i (Nat.lt_of_lt_of_le hi h.size) ho).trans (h.block i hi ho)⟩
theorem Keep.mono {own own' : Nat → Prop} {a b : World} (h : Keep own a b) (hm : ∀ k, k < a.heap.size → own k → own' k) : Keep own' a b :=
  ⟨h.os, h.tape, h.output, h.size, fun i hi ho => h.block i hi (fun e => ho (hm i hi e))⟩
theorem Keep.of_below {B : Nat} {own : Nat → Prop} {a b : World} (h : Below B a b) (hB : ∀ k, k < a.heap.size → ¬ own k → k < B) : Keep own a b :=
  ⟨h.os, h.tape, h.output, h.size, fun k hk ho => h.block k (hB k hk ho)⟩
theorem Keep.call {own : Nat → Prop} {a b : World} (h : Below a.heap.size a b) : Keep own a b := Keep.of_below h fun _ hk _ => hk
theorem Keep.qt {own : Nat → Prop} {a b : World} (h : Qt a b) : Keep own a b := Keep.call (h.below _)
theorem Keep.drewN {own : Nat → Prop} {a b : World} (h : Keep own a b) (n : Nat) : Keep own a (b.drewN n) := ⟨h.os, h.tape, h.output, h.size, h.block⟩
theorem Keep.alloc {own : Nat → Prop} (w : World) (o : Obj) : Keep own w (w.alloc o) := Keep.call ((Below.refl _ w).alloc (Nat.le_refl _) o)
theorem Keep.setCell {own : Nat → Prop} (w : World) (a : Addr) (u : Value) (h : own a.block) : Keep own w (w.setCell a u) :=
  ⟨rfl, rfl, rfl, by simp [World.setCell], fun k _ ho => Below.heap_setCell w a u k (fun e => ho (e ▸ h))⟩
theorem Keep.turned {own : Nat → Prop} {w w' : World} {v v' : Value} (h : Turned w w' v v') (ho : ∀ k, v.ownBlock = some k → own k) : Keep own w w' :=
  ⟨h.os, h.tape, h.output, h.size, fun k hk hn => h.block k hk (fun e => hn (ho k e))⟩
theorem Keep.putObj {own : Nat → Prop} (w : World) (r : Nat) (o : Obj) (h : own r) : Keep own w (w.putObj r o) :=
  ⟨rfl, rfl, rfl, by simp, fun k _ ho => World.putObj_heap_other (fun e => ho (e ▸ h))⟩
theorem Keep.below {own : Nat → Prop} {B : Nat} {a b : World} (h : Keep own a b) (hB : B ≤ a.heap.size) (ho : ∀ k, k < B → ¬ own k) : Below B a b :=
  ⟨h.os, h.tape, h.output, h.size, fun k hk => h.block k (by omega) (ho k hk)⟩

theorem blk_at {w : World} {k : Nat} (h : k = w.heap.size) (c : Array Value) (t : TypeId) : Blk k c t (w.alloc (.cells c t)) := by
  subst h
  exact Blk.new w c t
theorem bnx {a b c : World} (h : Below a.heap.size a b) (k : Below b.heap.size b c) : Below a.heap.size a c := h.trans (k.mono h.size)
theorem Blk.hand {b hb : Nat} {cs : Array Value} {t : TypeId} {w w' : World} (h : Blk b cs t w) (ho : w.grownBy w' (some hb)) (hB : b ≠ hb) : Blk b cs t w' := h.keep (ho.block b h.lt (fun e => hB (by injection e)))
theorem Blk.qt {b : Nat} {cs : Array Value} {t : TypeId} {w w' : World} (h : Blk b cs t w) (q : Qt w w') : Blk b cs t w' := by
  obtain ⟨n, rfl⟩ := q
  exact h
theorem bhand {a w w' : World} {hb : Nat} (h : Below a.heap.size a w) (ho : w.grownBy w' (some hb)) (hB : a.heap.size ≤ hb) : Below a.heap.size a w' := h.grown ho h.size (fun k e => by injection e with e; omega)

end Go.Proofs.YtbpfhoihfoojfaaGreatDoor

namespace Go.Proofs.YtbpfhoihfoojfaaGreatDoor
open Go.RowKit

theorem flat_len {α : Type} {f : α → List Value} {k : Nat} (hf : ∀ a, (f a).length = k) : ∀ l : List α, (l.flatMap f).length = l.length * k
  | [] => by simp
  | a :: l => by rw [List.flatMap_cons, List.length_append, hf a, flat_len hf l, List.length_cons, Nat.succ_mul, Nat.add_comm]
theorem flat_at {α : Type} {f : α → List Value} {k : Nat} (hf : ∀ a, (f a).length = k) : ∀ (l : List α) (i : Nat) (hi : i < l.length) (j : Nat), j < k → (l.flatMap f)[i * k + j]? = (f l[i])[j]?
  | [], i, hi, _, _ => by simp at hi
  | a :: l, 0, _, j, hj => by
    rw [List.flatMap_cons, List.getElem?_append_left (by rw [hf a]; omega), Nat.zero_mul, Nat.zero_add]; rfl
  | a :: l, i + 1, hi, j, hj => by
    rw [List.flatMap_cons, List.getElem?_append_right (by rw [hf a, Nat.succ_mul]; omega), hf a, show (i + 1) * k + j - k = i * k + j by rw [Nat.succ_mul]; omega]
    exact flat_at hf l i (by simpa using hi) j hj

/-- A slice of elements, each of them in the cells that f gives. -/
def Elems {α : Type} (f : α → List Value) (A : Nat → Prop) (w : World) (v : Value) (l : List α) : Prop := Arr A w v l.length (l.flatMap f)

section
variable {α : Type} {f : α → List Value} {A A' : Nat → Prop} {w w' : World} {v : Value} {l : List α}
theorem Elems.step (h : Elems f A w v l) (hs : w.heap.size ≤ w'.heap.size) (hb : ∀ k, A k → k < w.heap.size → w'.heap[k]? = w.heap[k]?) : Elems f A w' v l := Arr.step h hs hb
theorem Elems.wide (h : Elems f A w v l) (hA : ∀ k, A k → k < w.heap.size → A' k) : Elems f A' w v l := Arr.wide h hA
theorem Elems.below {B : Nat} (h : Elems f A w v l) (hB : Below B w w') (hA : ∀ k, A k → k < w.heap.size → k < B) : Elems f A w' v l := h.step hB.size fun k hk hl => hB.block k (hA k hk hl)
theorem Elems.call (h : Elems f A w v l) (hB : Below w.heap.size w w') : Elems f A w' v l := h.below hB fun _ _ hl => hl
theorem Elems.drewN (h : Elems f A w v l) (n : Nat) : Elems f A (w.drewN n) v l := h.step (Nat.le_refl _) fun _ _ _ => rfl
theorem Elems.qt (h : Elems f A w v l) (q : Qt w w') : Elems f A w' v l := by
  obtain ⟨n, rfl⟩ := q
  exact h.drewN n
theorem Elems.only {hb : Nat} (h : Elems f A w v l) (ho : w.grownBy w' (some hb)) (hA : ¬ A hb) : Elems f A w' v l :=
  h.step ho.size fun i hi hl => ho.block i hl (fun e => hA (by injection e with e; exact e ▸ hi))
theorem Elems.shape (h : Elems f A w v l) : ∃ ao cap, v = .slice ao l.length cap ∧ l.length ≤ cap ∧ cap ≤ maxLen := by
  obtain ⟨ao, cap, hv, h1, ⟨h2, _⟩, _⟩ := h
  exact ⟨ao, cap, hv, h1, h2⟩
theorem Elems.len (h : Elems f A w v l) : l.length ≤ 9223372036854775807 := by
  obtain ⟨ao, cap, hv, h1, h2⟩ := h.shape
  unfold maxLen at h2; omega
theorem Elems.addr {ao : Option Addr} {n cap k : Nat} (hf : ∀ a, (f a).length = k) (hk : 0 < k) (h : Elems f A w (.slice ao n cap) l) (hx : 0 < l.length) : ∃ b off, ao = some ⟨b, off, none⟩ ∧ A b ∧ b < w.heap.size := by
  obtain ⟨ao', cap', hv, h1, h2, h3⟩ := h
  injection hv with e1 e2 e3
  subst e1
  rcases h3 with h3 | ⟨b, off, he, hA, hl, hc⟩
  · have := flat_len hf l
    rw [h3] at this
    have := Nat.mul_pos hx hk
    simp at *; omega
  · exact ⟨b, off, he, hA, hl⟩
theorem Elems.at {b off n cap k : Nat} (hf : ∀ a, (f a).length = k) (h : Elems f A w (.slice (some ⟨b, off, none⟩) n cap) l) (i : Nat) (hi : i < l.length) (j : Nat) (hj : j < k) (u : Value) (hu : (f l[i])[j]? = some u) :
    w.cell? ⟨b, off + (i * k + j), none⟩ = some u := by
  obtain ⟨ao', cap', hv, h1, h2, h3⟩ := h
  injection hv with e1 e2 e3
  subst e1
  rcases h3 with h3 | ⟨b', off', he, hA, hl, hc⟩
  · have := flat_len hf l
    rw [h3] at this
    have h4 : 0 < l.length * k := Nat.mul_pos (by omega) (by omega)
    simp at this; omega
  · injection he with he
    injection he with e1 e2
    subst e1; subst e2
    exact hc _ _ ((flat_at hf l i hi j hj).trans hu)
end

/-- Claims, furrows, ranges. -/
def ccells (c : Cl) : List Value := [.int .i64 c.kind, .int .i64 c.point, .int .i64 c.other, .int .i64 c.off, .int .i64 c.err]
def fcells (f : Fu) : List Value := [.int .i64 f.point, .int .i64 f.year, .int .i64 f.off]
def rcells (r : Int × Int) : List Value := [.int .i64 r.1, .int .i64 r.2]
theorem ccells_len (c : Cl) : (ccells c).length = 5 := rfl
theorem fcells_len (c : Fu) : (fcells c).length = 3 := rfl
theorem rcells_len (c : Int × Int) : (rcells c).length = 2 := rfl
def Cl.val (c : Cl) : Value := .agg #[.int .i64 c.kind, .int .i64 c.point, .int .i64 c.other, .int .i64 c.off, .int .i64 c.err]
def Fu.val (f : Fu) : Value := .agg #[.int .i64 f.point, .int .i64 f.year, .int .i64 f.off]
abbrev ClsM := Elems ccells
abbrev FusM := Elems fcells
abbrev RgsM := Elems rcells
theorem cls_at {A : Nat → Prop} {w : World} {b off n cap : Nat} {l : List Cl} (h : ClsM A w (.slice (some ⟨b, off, none⟩) n cap) l) (i : Nat) (hi : i < l.length) :
    w.cell? ⟨b, off + i * 5, none⟩ = some (.int .i64 l[i].kind) ∧ w.cell? ⟨b, off + i * 5 + 1, none⟩ = some (.int .i64 l[i].point) ∧ w.cell? ⟨b, off + i * 5 + 2, none⟩ = some (.int .i64 l[i].other) ∧ w.cell? ⟨b, off + i * 5 + 3, none⟩ = some (.int .i64 l[i].off) ∧ w.cell? ⟨b, off + i * 5 + 4, none⟩ = some (.int .i64 l[i].err) :=
  ⟨Elems.at ccells_len h i hi 0 (by decide) _ rfl, Elems.at ccells_len h i hi 1 (by decide) _ rfl, Elems.at ccells_len h i hi 2 (by decide) _ rfl, Elems.at ccells_len h i hi 3 (by decide) _ rfl, Elems.at ccells_len h i hi 4 (by decide) _ rfl⟩
theorem fus_at {A : Nat → Prop} {w : World} {b off n cap : Nat} {l : List Fu} (h : FusM A w (.slice (some ⟨b, off, none⟩) n cap) l) (i : Nat) (hi : i < l.length) :
    w.cell? ⟨b, off + i * 3, none⟩ = some (.int .i64 l[i].point) ∧ w.cell? ⟨b, off + i * 3 + 1, none⟩ = some (.int .i64 l[i].year) ∧ w.cell? ⟨b, off + i * 3 + 2, none⟩ = some (.int .i64 l[i].off) :=
  ⟨Elems.at fcells_len h i hi 0 (by decide) _ rfl, Elems.at fcells_len h i hi 1 (by decide) _ rfl, Elems.at fcells_len h i hi 2 (by decide) _ rfl⟩
theorem rgs_at {A : Nat → Prop} {w : World} {b off n cap : Nat} {l : List (Int × Int)} (h : RgsM A w (.slice (some ⟨b, off, none⟩) n cap) l) (i : Nat) (hi : i < l.length) :
    w.cell? ⟨b, off + i * 2, none⟩ = some (.int .i64 l[i].1) ∧ w.cell? ⟨b, off + i * 2 + 1, none⟩ = some (.int .i64 l[i].2) :=
  ⟨Elems.at rcells_len h i hi 0 (by decide) _ rfl, Elems.at rcells_len h i hi 1 (by decide) _ rfl⟩
theorem cls_addr {A : Nat → Prop} {w : World} {ao : Option Addr} {n cap : Nat} {l : List Cl} (h : ClsM A w (.slice ao n cap) l) (hx : 0 < l.length) : ∃ b off, ao = some ⟨b, off, none⟩ ∧ A b ∧ b < w.heap.size := Elems.addr ccells_len (by decide) h hx
theorem fus_addr {A : Nat → Prop} {w : World} {ao : Option Addr} {n cap : Nat} {l : List Fu} (h : FusM A w (.slice ao n cap) l) (hx : 0 < l.length) : ∃ b off, ao = some ⟨b, off, none⟩ ∧ A b ∧ b < w.heap.size := Elems.addr fcells_len (by decide) h hx
theorem rgs_addr {A : Nat → Prop} {w : World} {ao : Option Addr} {n cap : Nat} {l : List (Int × Int)} (h : RgsM A w (.slice ao n cap) l) (hx : 0 < l.length) : ∃ b off, ao = some ⟨b, off, none⟩ ∧ A b ∧ b < w.heap.size := Elems.addr rcells_len (by decide) h hx

/-- An edge as a value. -/
def edgV (x : Edg) (v : Value) : Value := .agg #[.int .i64 x.points, .int .i64 x.bend, v]

end Go.Proofs.YtbpfhoihfoojfaaGreatDoor

namespace Go.Proofs.YtbpfhoihfoojfaaGreatDoor
open Go.RowKit

/-- The callers' side: an invariant over the blocks that are theirs and over what has come. -/
structure SideV (J : (Nat → Prop) → List Value → World → Prop) : Prop where
  lt : ∀ own pre W, J own pre W → ∀ k, own k → k < W.heap.size
  step : ∀ own pre W W', J own pre W → Keep (fun k => ¬ own k) W W' → J own pre W'

/-- What is asked of a round. -/
def RndT (lr : Nat) (all : List Value) (J : (Nat → Prop) → List Value → World → Prop) : Prop :=
  ∀ own pre v W h, J own pre W → (∀ k, own k → k < h) → h ≤ W.heap.size → pre ++ [v] <+: all →
    YieldAt Fence.wide 8 Tryz.prog lr #[v] W fun e W' => ∃ own', (∀ k, k < h → own' k → own k) ∧ (∀ k, k < h → ¬ own k → W'.heap[k]? = W.heap[k]?) ∧ W.heap.size ≤ W'.heap.size ∧
      e = .returned (.bool true) ∧ J own' (pre ++ [v]) W'

/-- What an iterator owes that yields all these values. -/
def IterT (f nb : Nat) (all : List Value) (w : World) : Prop :=
  ∀ (lr : Nat) (J : (Nat → Prop) → List Value → World → Prop) (own : Nat → Prop) (W : World), SideV J → RndT lr all J → Below w.heap.size w W → (¬ own nb) → J own [] W →
    Calls Tryz.prog f #[.func (.yield lr) #[] #[], .pointer (some ⟨nb, 0, none⟩)] W fun e W' => (∃ v, e = .returned v) ∧ ∃ own', J own' all W'

/-- How the body of a round is left. -/
def BodyEndT (I : (Nat → Prop) → List Value → World → Prop) (own : Nat → Prop) (h : Nat) (xs : List Value) (W : World) (e : Exit) (_ : Act) (W' : World) : Prop :=
  ∃ own', (∀ k, k < h → own' k → own k) ∧ Keep own W W' ∧ e = .normal ∧ I own' xs W'

set_option maxRecDepth 100000 in
theorem wp_rangeT {ps : Array Tmp} {assign body : Code} {Q : Exit → Act → World → Prop} {a : Act} {w : World} {g : Operand} {f nb : Nat} {all : List Value} {own : Nat → Prop}
    (hg : a.eval g = .func (.func f) #[] #[.pointer (some ⟨nb, 0, none⟩)]) (hps : ps.size = 1) (hf : ∀ args w, (callFunc f args).run Tryz.prog w = .ok (.enter f args) w) (hnl : nb < w.heap.size) (hit : IterT f nb all w)
    (I : (Nat → Prop) → List Value → World → Prop) (sI : SideV I) (hnb : ¬ own nb) (h0 : I own [] w)
    (a₁ : Value → Act)
    (hassign : ∀ (l : Nat) (v : Value) (W : World) (K : Act → World → Prop), K (a₁ v) W →
      assign.wpIn (Fence.wide.inRound l) 8 Tryz.prog (Exit.then K (fun _ _ _ => False)) { tmps := (ps.zip #[v]).foldl (fun t (p, v) => t.setIfInBounds p v) a.tmps, defers := [] } W)
    (hbody : ∀ (l : Nat) (own : Nat → Prop) (pre : List Value) (v : Value) (W : World) (h : Nat), I own pre W → (∀ k, own k → k < h) → h ≤ W.heap.size → pre ++ [v] <+: all →
      body.wpIn (Fence.wide.inRound l) 8 Tryz.prog (BodyEndT I own h (pre ++ [v]) W) (a₁ v) W)
    (hdone : ∀ (D : Nat) (own : Nat → Prop) (W : World), I own all W → W.heap[D]? = some (.deferred (some [])) → w.heap.size ≤ D → ¬ own D → Q .normal { a with defers := { target := .collected D, args := #[] } :: a.defers } W) :
    (Code.rangeFunc g ps assign body).wp Tryz.prog Q a w := by
  refine (wpIn_wide (n := 9)).1 (wpIn_rangeFunc ?_)
  intro fn hfn
  obtain ⟨rec, hrec⟩ : ∃ rec : LoopState → Option Code → Loop, rec = fun st pe => { state := st, pending := pe, fn, tmps := a.tmps, params := ps, assign, body, defers := w.heap.size } := ⟨_, rfl⟩
  obtain ⟨W1, hW1⟩ : ∃ W1, (w.alloc (.deferred (some []))).alloc (.loop (rec .ready none)) = W1 := ⟨_, rfl⟩
  have hB1 : Below w.heap.size w W1 := by rw [← hW1]; exact ((Below.refl _ w).alloc (Nat.le_refl _) _).alloc (by simp) _
  have hL1 : W1.heap[w.heap.size + 1]? = some (.loop (rec .ready none)) := by
    rw [← hW1]; have := World.alloc_heap_new (w.alloc (.deferred (some []))) (.loop (rec .ready none)); rwa [World.size_alloc] at this
  have hK1 : W1.heap[w.heap.size]? = some (.deferred (some [])) := by
    rw [← hW1]; exact (Below.heap_alloc _ _ _ (by simp)).trans (World.alloc_heap_new w _)
  have hI1 : I own [] W1 := sI.step own [] w W1 h0 (Keep.call hB1)
  have hlt0 := sI.lt own [] w h0
  refine ⟨w.heap.size + 1, [{ target := .collected w.heap.size, args := #[] }], W1, { target := .fn (.func f) #[.pointer (some ⟨nb, 0, none⟩)], args := #[.func (.yield (w.heap.size + 1)) #[] #[]] }, W1, f,
    #[.func (.yield (w.heap.size + 1)) #[] #[], .pointer (some ⟨nb, 0, none⟩)], W1, ?_, ?_, fun _ _ => trivial, ?_, fun _ => by omega, ?_⟩
  · rw [← hW1, hrec]; exact run_enterLoop_outer _ _ _ _ _
  · simp only [resolve, hg]
    simp [go_sem]
  · simp [invoke, go_sem, hf]
  · obtain ⟨J, hJ⟩ : ∃ J : (Nat → Prop) → List Value → World → Prop, J = fun own2 pre W => ∃ own, (∀ k, own2 k ↔ (own k ∨ k = w.heap.size + 1 ∨ k = w.heap.size)) ∧ ¬ own (w.heap.size + 1) ∧ ¬ own w.heap.size ∧ I own pre W ∧
        W.heap[w.heap.size + 1]? = some (.loop (rec .ready none)) ∧ W.heap[w.heap.size]? = some (.deferred (some [])) := ⟨_, rfl⟩
    have sJ : SideV J := by
      rw [hJ]
      refine ⟨fun o2 pre W ⟨o, he, _, _, hi, hl, hk⟩ k hk2 => ?_, fun o2 pre W W' ⟨o, he, n1, n2, hi, hl, hk⟩ hs => ⟨o, he, n1, n2, sI.step o pre W W' hi (hs.mono fun k _ hn h => hn ((he k).2 (.inl h))), ?_, ?_⟩⟩
      · rcases (he k).1 hk2 with h | rfl | rfl
        · exact sI.lt o pre W hi k h
        · exact (Array.getElem?_eq_some_iff.1 hl).1
        · exact (Array.getElem?_eq_some_iff.1 hk).1
      · exact (hs.block _ (Array.getElem?_eq_some_iff.1 hl).1 (fun h => h ((he _).2 (.inr (.inl rfl))))).trans hl
      · exact (hs.block _ (Array.getElem?_eq_some_iff.1 hk).1 (fun h => h ((he _).2 (.inr (.inr rfl))))).trans hk
    have hR : RndT (w.heap.size + 1) all J := by
      intro o2 pre v W h hj hlt hh hp
      rw [hJ] at hj
      obtain ⟨o, he, n1, n2, hi, hl, hk⟩ := hj
      have hl1 : w.heap.size + 1 < h := hlt _ ((he _).2 (.inr (.inl rfl)))
      have hl0 : w.heap.size < h := by omega
      have hy := run_yield (P := Tryz.prog) (args := #[v]) hl (by rw [hrec]; exact hps.symm)
      rw [hrec] at hy
      refine ⟨fn, _, assign, body, hy, roundIn_of_wpIn hfn (hassign _ v W _ ⟨_, run_beginRound hl (by rw [hrec]), ?_⟩)⟩
      obtain ⟨W2, hW2⟩ : ∃ W2, W2 = W.putObj (w.heap.size + 1) (.loop { rec .ready none with state := .busy }) := ⟨_, rfl⟩
      rw [← hW2]
      have hs2 : W2.heap.size = W.heap.size := by rw [hW2]; simp
      have hk2 : ∀ (o : Nat → Prop), o (w.heap.size + 1) → Keep o W W2 := fun o ho => by rw [hW2]; exact Keep.putObj _ _ _ ho
      have hl2 : W2.heap[w.heap.size + 1]? = some (.loop { rec .ready none with state := .busy }) := by rw [hW2]; exact World.putObj_heap_same (by omega)
      have hi2 : I o pre W2 := sI.step o pre W W2 hi (hk2 _ n1)
      refine wpIn_mono (hbody _ o pre v W2 h hi2 (fun k hk => hlt k ((he k).2 (.inl hk))) (by omega) hp) ?_
      rintro e a3 W3 ⟨o', ho', hkp, rfl, hend⟩
      have hl3 : W3.heap[w.heap.size + 1]? = some (.loop { rec .ready none with state := .busy }) := (hkp.block _ (by omega) n1).trans hl2
      have hk3 : W3.heap[w.heap.size]? = some (.deferred (some [])) := (hkp.block _ (by omega) n2).trans (((hk2 (fun k => k = w.heap.size + 1) rfl).block _ (by omega) (by omega)).trans hk)
      have n1' : ¬ o' (w.heap.size + 1) := fun h => n1 (ho' _ (by omega) h)
      have n2' : ¬ o' w.heap.size := fun h => n2 (ho' _ (by omega) h)
      have fin : ∀ (jump : Option Code), ∃ W4, (Instr.endRound (w.heap.size + 1) jump).run Tryz.prog W3 = .ok (.bool jump.isNone) W4 ∧ W4.heap[w.heap.size + 1]? = some (.loop (rec (if jump.isNone then .ready else .done) jump)) ∧
          W4.heap[w.heap.size]? = some (.deferred (some [])) ∧ Keep (fun k => k = w.heap.size + 1) W3 W4 := fun jump => by
        have := run_endRound (P := Tryz.prog) jump hl3
        rw [hrec] at this ⊢
        exact ⟨_, this, World.putObj_heap_same (Array.getElem?_eq_some_iff.1 hl3).1, (World.putObj_heap_other (by omega)).trans hk3, Keep.putObj _ _ _ rfl⟩
      have hs3 := hkp.size
      have big : ∀ W4, Keep (fun k => k = w.heap.size + 1) W3 W4 → (∀ k, k < h → (o' k ∨ k = w.heap.size + 1 ∨ k = w.heap.size) → o2 k) ∧ (∀ k, k < h → ¬ o2 k → W4.heap[k]? = W.heap[k]?) ∧ W.heap.size ≤ W4.heap.size := fun W4 h4 => by
        have hs4 := h4.size
        refine ⟨fun k hk ho => (he k).2 (ho.imp (ho' k hk) id), fun k hk hn => ?_, by omega⟩
        have e1 : k ≠ w.heap.size + 1 := fun e => hn ((he k).2 (.inr (.inl e)))
        have e2 : ¬ o k := fun e => hn ((he k).2 (.inl e))
        exact (h4.block k (by omega) e1).trans ((hkp.block k (by omega) e2).trans ((hk2 (fun k => k = w.heap.size + 1) rfl).block k (by omega) e1))
      obtain ⟨W4, hr, hl4, hk4, h4⟩ := fin none
      obtain ⟨g1, g2, g3⟩ := big W4 h4
      refine ⟨_, _, hr, fun k => o' k ∨ k = w.heap.size + 1 ∨ k = w.heap.size, g1, g2, g3, rfl, ?_⟩
      rw [hJ]
      exact ⟨o', fun k => Iff.rfl, n1', n2', sI.step _ _ _ _ hend (h4.mono fun k _ e => by subst e; exact n1'), hl4, hk4⟩
    have hj1 : J (fun k => own k ∨ k = w.heap.size + 1 ∨ k = w.heap.size) [] W1 := by
      rw [hJ]
      exact ⟨own, fun k => Iff.rfl, fun h => by have := hlt0 _ h; omega, fun h => by have := hlt0 _ h; omega, hI1, hL1, hK1⟩
    have hcall := hit (w.heap.size + 1) J _ W1 sJ hR hB1 (fun h => by rcases h with h | h | h; exact hnb h; omega; omega) hj1
    refine CallsIn.mono (callsIn_wide.2 hcall) ?_
    rintro e W' ⟨⟨v, rfl⟩, o2, hj⟩
    rw [hJ] at hj
    obtain ⟨o, he, n1, n2, hi, hl, hk⟩ := hj
    have hend := run_endLoop (P := Tryz.prog) hl (by rw [hrec]; simp)
    refine ⟨none, _, by rw [hrec] at hend; exact hend, ?_⟩
    exact hdone w.heap.size o _ (sI.step _ _ _ _ hi (Keep.putObj _ _ _ n1)) ((World.putObj_heap_other (by omega)).trans hk) (Nat.le_refl _) n2

end Go.Proofs.YtbpfhoihfoojfaaGreatDoor

