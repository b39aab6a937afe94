/- What stands in memory while a text of an edge is read (edge.parse); conditions: as said at each. -/
import Derived.Test.YtbpfhoihfoojfaaGreatDoorMp
import Derived.Test.YtbpfhoihfoojfaaGreatDoorEof
import Derived.Test.YtbpfhoihfoojfaaGreatDoorFof
namespace Go.Proofs.YtbpfhoihfoojfaaGreatDoor
open Go.RowKit

theorem own_ne_t {B n b sz : Nat} {e t : TypeId} {w : World} {v : Value} {xs : List Value} {c : Array Value} (h : Own B w e sz v n xs) (hX : Blk b c t w) (hn : e ≠ t) : v.ownBlock ≠ some b := by
  rcases h.2 with ⟨rfl, _⟩ | ⟨g, cap, cur, rfl, hb, hg, -⟩
  · simp [Value.ownBlock]
  · simp only [Value.ownBlock]
    intro hq
    injection hq with hq
    subst hq
    unfold Blk at hX
    rw [hX] at hg
    simp at hg
    exact hn hg.2.symm
theorem own_apart {B B' n n' sz sz' : Nat} {e e' : TypeId} {w : World} {v v' : Value} {xs xs' : List Value} (h : Own B w e sz v n xs) (h' : Own B' w e' sz' v' n' xs') (hn : e ≠ e') (q : Nat) (hq : v'.ownBlock = some q) : v.ownBlock ≠ some q := by
  rcases h'.2 with ⟨rfl, _⟩ | ⟨g, cap, cur, rfl, hb, hg, -⟩
  · simp [Value.ownBlock] at hq
  · simp only [Value.ownBlock] at hq
    injection hq with hq
    subst hq
    exact own_ne_t h (c := cur) hg hn
abbrev eV (x : Edg) (vx : Value) : Array Value := #[.int .i64 x.points, .int .i64 x.bend, vx]
/-- The edge and the furrows so far; wl is the world in which the lines begin to be read. -/
structure PS (w0 wl : World) (b5 : Nat) (x : Edg) (vx : Value) (l : List Fu) (vl : Value) (w : World) : Prop where
  fx : ∀ k, k < wl.heap.size → k ≠ b5 → w.heap[k]? = wl.heap[k]?
  sz : wl.heap.size ≤ w.heap.size
  box : Blk b5 (eV x vx) 24 w
  c : Own wl.heap.size w 54 5 vx x.claims.length (x.claims.flatMap ccells)
  f : Own wl.heap.size w 73 3 vl l.length (l.flatMap fcells)
  bel : Below w0.heap.size w0 w
  o : w0.heap.size ≤ b5 ∧ b5 < wl.heap.size
section
variable {w0 wl w w' : World} {b5 : Nat} {x : Edg} {vx vl : Value} {l : List Fu}
theorem PS.call (h : PS w0 wl b5 x vx l vl w) (hB : Below w.heap.size w w') : PS w0 wl b5 x vx l vl w' :=
  ⟨fun k hk hne => (hB.block k (by have := h.sz; omega)).trans (h.fx k hk hne), by have := hB.size; have := h.sz; omega, h.box.call hB, h.c.call hB, h.f.call hB, bnw h.bel hB, h.o⟩
theorem PS.qt (h : PS w0 wl b5 x vx l vl w) (hq : Qt w w') : PS w0 wl b5 x vx l vl w' := h.call (hq.below _)
theorem PS.fur {vl' : Value} {y : Fu} (h : PS w0 wl b5 x vx l vl w) (hown : Own wl.heap.size w' 73 3 vl' (l.length + 1) (l.flatMap fcells ++ fcells y)) (hT : Turned w w' vl vl') : PS w0 wl b5 x vx (l ++ [y]) vl' w' := by
  have hm : ∀ i, vl.ownBlock = some i → wl.heap.size ≤ i := fun i hi => (World.ownsRow.lt h.f i hi).1
  have ho := h.o
  have hs := h.sz
  refine ⟨fun k hk hne => (hT.block k (by omega) (fun e => by have := hm _ e; omega)).trans (h.fx k hk hne), by have := hT.size; omega, h.box.keep (hT.block _ h.box.lt (own_ne_t h.f h.box (by decide))), h.c.step fun q hq _ hl => hT.block q hl (own_apart h.f h.c (by decide) q hq), ?_, hT.below2 h.f h.bel (by have := h.bel.size; omega) (by omega), ho⟩
  rw [List.length_append, List.length_singleton, fus_snoc]
  exact hown
theorem PS.claim {vx' : Value} {y : Cl} (h : PS w0 wl b5 x vx l vl w) (hown : Own wl.heap.size w' 54 5 vx' (x.claims.length + 1) (x.claims.flatMap ccells ++ ccells y)) (hT : Turned w w' vx vx') : PS w0 wl b5 ⟨x.points, x.bend, x.claims ++ [y]⟩ vx' l vl (w'.setCell ⟨b5, 2, none⟩ vx') := by
  have hm : ∀ i, vx.ownBlock = some i → wl.heap.size ≤ i := fun i hi => (World.ownsRow.lt h.c i hi).1
  have ho := h.o
  have hs := h.sz
  have hb : ∀ q, q ≠ b5 → (w'.setCell ⟨b5, 2, none⟩ vx').heap[q]? = w'.heap[q]? := fun q hq => Below.heap_setCell _ _ _ _ hq
  have hbx : Blk b5 (eV x vx) 24 w' := h.box.keep (hT.block _ h.box.lt (own_ne_t h.c h.box (by decide)))
  have hf : Own wl.heap.size w' 73 3 vl l.length (l.flatMap fcells) := h.f.step fun q hq _ hl => hT.block q hl (own_apart h.c h.f (by decide) q hq)
  refine ⟨fun k hk hne => (hb k hne).trans ((hT.block k (by omega) (fun e => by have := hm _ e; omega)).trans (h.fx k hk hne)), by have := hT.size; simp [World.setCell]; omega, hbx.set 2 vx', ?_, hf.step fun q _ hq _ => hb q (by omega), (hT.below2 (B' := w0.heap.size) h.c h.bel (by have := h.bel.size; omega) (by omega)).setCell (p := ⟨b5, 2, none⟩) ho.1 vx', ho⟩
  show Own _ _ 54 5 vx' (x.claims ++ [y]).length ((x.claims ++ [y]).flatMap ccells)
  rw [List.length_append, List.length_singleton, cls_snoc]
  exact hown.step fun q _ hq _ => hb q (by omega)
theorem PS.head {a b : Int} (h : PS w0 wl b5 x vx l vl w) : PS w0 wl b5 ⟨a, b, x.claims⟩ vx l vl ((w.setCell ⟨b5, 0, none⟩ (.int .i64 a)).setCell ⟨b5, 1, none⟩ (.int .i64 b)) := by
  have ho := h.o
  have hs := h.sz
  have hb : ∀ q, q ≠ b5 → ((w.setCell ⟨b5, 0, none⟩ (.int .i64 a)).setCell ⟨b5, 1, none⟩ (.int .i64 b)).heap[q]? = w.heap[q]? := fun q hq => (Below.heap_setCell _ _ _ _ hq).trans (Below.heap_setCell _ _ _ _ hq)
  exact ⟨fun k hk hne => (hb k hne).trans (h.fx k hk hne), by simp [World.setCell]; omega, (h.box.set 0 (.int .i64 a)).set 1 (.int .i64 b), h.c.step fun q _ hq _ => hb q (by omega), h.f.step fun q _ hq _ => hb q (by omega), (h.bel.setCell (p := ⟨b5, 0, none⟩) ho.1 _).setCell (p := ⟨b5, 1, none⟩) ho.1 _, ho⟩
theorem cell_heap {b j : Nat} (h : w'.heap[b]? = w.heap[b]?) : w'.cell? ⟨b, j, none⟩ = w.cell? ⟨b, j, none⟩ := by
  simp [World.cell?, h]
theorem PS.sw {b off : Nat} {ws : List (List UInt8)} (h : PS w0 wl b5 x vx l vl w) (hs : SW b off ws wl) (hne : b ≠ b5) : SW b off ws w :=
  ⟨by have := h.sz; have := hs.1; omega, fun j hj => (cell_heap (h.fx b hs.1 hne)).trans (hs.2 j hj)⟩
theorem PS.blk {b : Nat} {c : Array Value} {t : TypeId} (h : PS w0 wl b5 x vx l vl w) (hb : Blk b c t wl) (hne : b ≠ b5) : Blk b c t w := hb.keep (h.fx b hb.lt hne)
theorem PS.gv (h : PS w0 wl b5 x vx l vl w) (hg : GV w0) : GV w := hg.call h.bel
theorem PS.rm {N r k1 k2 k3 : Nat} (h : PS w0 wl b5 x vx l vl w) (hr : RM wl N r k1 k2 k3) (hN : b5 < N) : RM w N r k1 k2 k3 := hr.keep h.sz fun q hq hl => h.fx q hl (by omega)
end
/-- The claim and the furrow of a line's words. -/
def cOf (ws : List (List UInt8)) : Option Cl := if ws.headD [] = wFw then none else clR ws
def fOf (ws : List (List UInt8)) : Option Fu := if ws.headD [] = wFw then fwR ws else none
theorem takeG_h0 {fin : List UInt8} {x : Edg} {l : List Fu} {s : List UInt8} {r : List (List UInt8)} (h : hdR (cutL 32 s) = none) : takeG fin 0 x l (s :: r) = .error 1 := by
  unfold takeG
  rw [if_pos rfl, h]
theorem takeG_h1 {fin : List UInt8} {x : Edg} {l : List Fu} {s : List UInt8} {r : List (List UInt8)} {m : Int × Int} (h : hdR (cutL 32 s) = some m) : takeG fin 0 x l (s :: r) = takeG fin 1 ⟨m.1, m.2, x.claims⟩ l r := by
  conv => lhs; unfold takeG
  rw [if_pos rfl, h]
section
variable {fin : List UInt8} {x : Edg} {l : List Fu} {s : List UInt8} {r : List (List UInt8)} {i : Nat}
theorem takeG_e1 (hi : i ≠ 0) (h : s = wEd) (h2 : r ≠ [] ∨ fin ≠ []) : takeG fin i x l (s :: r) = .error (i + 2) := by
  unfold takeG
  rw [if_neg hi, if_pos h, if_pos h2]
theorem takeG_e2 (hi : i ≠ 0) (h : s = wEd) (h2 : r = []) (h3 : fin = []) : takeG fin i x l (s :: r) = .ok (x, l) := by
  unfold takeG
  rw [if_neg hi, if_pos h, if_neg (by simp [h2, h3])]
theorem takeG_n (hi : i ≠ 0) (h : s ≠ wEd) (h1 : cOf (cutL 32 s) = none) (h2 : fOf (cutL 32 s) = none) : takeG fin i x l (s :: r) = .error (i + 1) := by
  unfold takeG
  rw [if_neg hi, if_neg h]
  unfold cOf at h1
  unfold fOf at h2
  by_cases hf : (cutL 32 s).headD [] = wFw
  · rw [if_pos hf] at h2
    rw [if_pos hf, h2]
  · rw [if_neg hf] at h1
    rw [if_neg hf, h1]
    by_cases hl : l ≠ []
    · rw [if_pos hl]
    · rw [if_neg hl]
theorem takeG_c {y : Cl} (hi : i ≠ 0) (h : s ≠ wEd) (h1 : cOf (cutL 32 s) = some y) (h2 : l = []) : takeG fin i x l (s :: r) = takeG fin (i + 1) ⟨x.points, x.bend, x.claims ++ [y]⟩ l r := by
  conv => lhs; unfold takeG
  rw [if_neg hi, if_neg h]
  unfold cOf at h1
  by_cases hf : (cutL 32 s).headD [] = wFw
  · rw [if_pos hf] at h1; cases h1
  · rw [if_neg hf] at h1
    rw [if_neg hf, h1, if_neg (by simp [h2])]
theorem takeG_c2 {y : Cl} (hi : i ≠ 0) (h : s ≠ wEd) (h1 : cOf (cutL 32 s) = some y) (h2 : l ≠ []) : takeG fin i x l (s :: r) = .error (i + 1) := by
  unfold takeG
  rw [if_neg hi, if_neg h]
  unfold cOf at h1
  by_cases hf : (cutL 32 s).headD [] = wFw
  · rw [if_pos hf] at h1; cases h1
  · rw [if_neg hf, if_pos h2]
theorem takeG_f {y : Fu} (hi : i ≠ 0) (h : s ≠ wEd) (h1 : fOf (cutL 32 s) = some y) : takeG fin i x l (s :: r) = takeG fin (i + 1) x (l ++ [y]) r := by
  conv => lhs; unfold takeG
  rw [if_neg hi, if_neg h]
  unfold fOf at h1
  by_cases hf : (cutL 32 s).headD [] = wFw
  · rw [if_pos hf] at h1
    rw [if_pos hf, h1]
  · rw [if_neg hf] at h1; cases h1
end
theorem takeG_no {fin : List UInt8} {x : Edg} {l : List Fu} {i : Nat} : takeG fin i x l [] = .error (i + 1) := by
  unfold takeG
  rfl
/-- What parse hands back. -/
def PsPost (ls : List (List UInt8)) (w : World) (e : Ending) (w' : World) : Prop :=
  ((∃ (n : Nat) (p b : Int) (a : Option Addr) (k c : Nat), takeR ls = .error n ∧ e = .returned (.tuple #[.agg #[.int .i64 p, .int .i64 b, .slice a k c], .slice none 0 0, .iface 93 (.int .i64 (n : Int))])) ∨
   (∃ (x : Edg) (l : List Fu) (vx vl : Value), takeR ls = .ok (x, l) ∧ e = .returned (.tuple #[.agg #[.int .i64 x.points, .int .i64 x.bend, vx], vl, .nilIface]) ∧ ClsM (fun q => w.heap.size ≤ q) w' vx x.claims ∧ FusM (fun q => w.heap.size ≤ q) w' vl l)) ∧ Below w.heap.size w w'
/-- What the reader of a line hands back, in two slots. -/
def LnVal (c : Option Cl) (f : Option Fu) (N : Nat) (v1 v2 : Value) (w' : World) : Prop :=
  (c = none ∧ f = none ∧ v1 = .pointer none ∧ v2 = .pointer none) ∨
   (∃ y q, c = some y ∧ f = none ∧ v1 = .pointer (some ⟨q, 0, none⟩) ∧ v2 = .pointer none ∧ N ≤ q ∧ Blk q (cV y) 54 w') ∨
   (∃ y q, c = none ∧ f = some y ∧ v1 = .pointer none ∧ v2 = .pointer (some ⟨q, 0, none⟩) ∧ N ≤ q ∧ Blk q (fV y) 73 w')
theorem ln_val {c : Option Cl} {f : Option Fu} {w w' : World} {e : Ending} (h : LnPost c f w e w') : ∃ v1 v2, e = .returned (.tuple #[v1, v2]) ∧ LnVal c f w.heap.size v1 v2 w' ∧ Below w.heap.size w w' := by
  obtain ⟨⟨rfl, rfl, rfl⟩ | ⟨y, q, rfl, rfl, rfl, h1, h2⟩ | ⟨y, q, rfl, rfl, rfl, h1, h2⟩, hB⟩ := h
  · exact ⟨_, _, rfl, .inl ⟨rfl, rfl, rfl, rfl⟩, hB⟩
  · exact ⟨_, _, rfl, .inr (.inl ⟨y, q, rfl, rfl, rfl, rfl, h1, h2⟩), hB⟩
  · exact ⟨_, _, rfl, .inr (.inr ⟨y, q, rfl, rfl, rfl, rfl, h1, h2⟩), hB⟩
theorem cut_word (c : UInt8) : ∀ s : List UInt8, ∀ a ∈ cutL c s, a.length ≤ s.length
  | [], a, h => by
    simp [cutL] at h
    simp [h]
  | x :: r, a, h => by
    have ih := cut_word c r
    unfold cutL at h
    split at h
    · rcases List.mem_cons.1 h with rfl | h
      · simp
      · have := ih a h; simp; omega
    · rcases List.mem_cons.1 h with rfl | h
      · cases hc : cutL c r with
        | nil => exact absurd hc (cutL_ne c r)
        | cons b t =>
          have := ih b (by rw [hc]; simp)
          simp; omega
      · have := ih a (List.mem_of_mem_tail h); simp; omega
theorem cut_len (c : UInt8) : ∀ s : List UInt8, (cutL c s).length ≤ s.length + 1
  | [] => by simp [cutL]
  | x :: r => by
    have ih := cut_len c r
    unfold cutL
    split
    · simp; omega
    · simp; omega

end Go.Proofs.YtbpfhoihfoojfaaGreatDoor
