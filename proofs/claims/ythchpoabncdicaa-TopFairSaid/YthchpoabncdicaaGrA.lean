/- Pastures in plain words; a range over a function that yields values; the rains of a sky; whether a pasture always feeds heads (grass); conditions: as said. -/
import Derived.Test.YthchpoabncdicaaB1
import Derived.Test.YthchpoabncdicaaO1
import Derived.Laws.BytesArg
import Derived.OwnWalkIn
import Derived.TacticsInMore
import Derived.LoopIn
import Derived.WalkMore
import Derived.Scope
namespace Go.Proofs.Ythchpoabncdicaa
open Go.RowKit

/-- The callers' side: an invariant over the blocks that are theirs and over what has come. -/
structure SideV (J : (Nat → Prop) → List Value → World → Prop) : Prop where
  lt : ∀ own pre W, J own pre W → ∀ k, own k → k < W.heap.size
  step : ∀ own pre W W', J own pre W → Keep (fun k => ¬ own k) W W' → J own pre W'

/-- What is asked of a round. -/
def RndV (lr : Nat) (all : List Value) (J Jx : (Nat → Prop) → List Value → World → Prop) : Prop :=
  ∀ own pre v W h, J own pre W → (∀ k, own k → k < h) → h ≤ W.heap.size → pre ++ [v] <+: all →
    YieldAt Fence.wide 8 Try.prog lr #[v] W fun e W' => ∃ own', (∀ k, k < h → own' k → own k) ∧ (∀ k, k < h → ¬ own k → W'.heap[k]? = W.heap[k]?) ∧ W.heap.size ≤ W'.heap.size ∧
      ((e = .returned (.bool true) ∧ J own' (pre ++ [v]) W') ∨ (e = .returned (.bool false) ∧ Jx own' (pre ++ [v]) W'))

/-- What an iterator owes that yields all these values. -/
def IterV (f nb : Nat) (all : List Value) (w : World) : Prop :=
  ∀ (lr : Nat) (J Jx : (Nat → Prop) → List Value → World → Prop) (own : Nat → Prop) (W : World), SideV J → SideV Jx → RndV lr all J Jx → Below w.heap.size w W → (¬ own nb) → J own [] W →
    Calls Try.prog f #[.func (.yield lr) #[] #[], .pointer (some ⟨nb, 0, none⟩)] W fun e W' => (∃ v, e = .returned v) ∧ ((∃ own', J own' all W') ∨ ∃ own' q, q <+: all ∧ Jx own' q W')

/-- How the body of a round may be left. -/
def BodyEndV (I : (Nat → Prop) → List Value → World → Prop) (Ix : Code → (Nat → Prop) → List Value → World → Prop) (own : Nat → Prop) (h : Nat) (xs : List Value) (W : World) (e : Exit) (_ : Act) (W' : World) : Prop :=
  ∃ own', (∀ k, k < h → own' k → own k) ∧ Keep own W W' ∧
    match e with
    | .normal => I own' xs W'
    | .ret => Ix .ret own' xs W'
    | .exit id => Ix (.exit id) own' xs W'
    | .goto t => Ix (.goto t) own' xs W'
    | .panic _ => False
    | .outgrown => False

set_option maxRecDepth 100000 in
theorem wp_rangeV {ps : Array Tmp} {assign body : Code} {Q : Exit → Act → World → Prop} {a : Act} {w : World} {g : Operand} {f nb : Nat} {all : List Value} {own : Nat → Prop}
    (hg : a.eval g = .func (.func f) #[] #[.pointer (some ⟨nb, 0, none⟩)]) (hps : ps.size = 1) (hf : ∀ args w, (callFunc f args).run Try.prog w = .ok (.enter f args) w) (hnl : nb < w.heap.size) (hit : IterV f nb all w)
    (I : (Nat → Prop) → List Value → World → Prop) (Ix : Code → (Nat → Prop) → List Value → World → Prop) (sI : SideV I) (sX : ∀ c, SideV (Ix c)) (hnb : ¬ own nb) (h0 : I own [] w)
    (a₁ : Value → Act)
    (hassign : ∀ (l : Nat) (v : Value) (W : World) (K : Act → World → Prop), K (a₁ v) W →
      assign.wpIn (Fence.wide.inRound l) 8 Try.prog (Exit.then K (fun _ _ _ => False)) { tmps := (ps.zip #[v]).foldl (fun t (p, v) => t.setIfInBounds p v) a.tmps, defers := [] } W)
    (hbody : ∀ (l : Nat) (own : Nat → Prop) (pre : List Value) (v : Value) (W : World) (h : Nat), I own pre W → (∀ k, own k → k < h) → h ≤ W.heap.size → pre ++ [v] <+: all →
      body.wpIn (Fence.wide.inRound l) 8 Try.prog (BodyEndV I Ix own h (pre ++ [v]) W) (a₁ v) W)
    (hdone : ∀ (D : Nat) (own : Nat → Prop) (W : World), I own all W → W.heap[D]? = some (.deferred (some [])) → w.heap.size ≤ D → ¬ own D → Q .normal { a with defers := { target := .collected D, args := #[] } :: a.defers } W)
    (hstop : ∀ (D : Nat) (c : Code) (own : Nat → Prop) (pre : List Value) (W : World), pre <+: all → Ix c own pre W → W.heap[D]? = some (.deferred (some [])) → w.heap.size ≤ D → ¬ own D → c.wp Try.prog Q { a with defers := { target := .collected D, args := #[] } :: a.defers } W) :
    (Code.rangeFunc g ps assign body).wp Try.prog Q a w := by
  refine (wpIn_wide (n := 9)).1 (wpIn_rangeFunc ?_)
  intro fn hfn
  obtain ⟨rec, hrec⟩ : ∃ rec : LoopState → Option Code → Loop, rec = fun st pe => { state := st, pending := pe, fn, tmps := a.tmps, params := ps, assign, body, defers := w.heap.size } := ⟨_, rfl⟩
  obtain ⟨W1, hW1⟩ : ∃ W1, (w.alloc (.deferred (some []))).alloc (.loop (rec .ready none)) = W1 := ⟨_, rfl⟩
  have hB1 : Below w.heap.size w W1 := by rw [← hW1]; exact ((Below.refl _ w).alloc (Nat.le_refl _) _).alloc (by simp) _
  have hL1 : W1.heap[w.heap.size + 1]? = some (.loop (rec .ready none)) := by
    rw [← hW1]; have := World.alloc_heap_new (w.alloc (.deferred (some []))) (.loop (rec .ready none)); rwa [World.size_alloc] at this
  have hK1 : W1.heap[w.heap.size]? = some (.deferred (some [])) := by
    rw [← hW1]; exact (Below.heap_alloc _ _ _ (by simp)).trans (World.alloc_heap_new w _)
  have hI1 : I own [] W1 := sI.step own [] w W1 h0 (Keep.call hB1)
  have hlt0 := sI.lt own [] w h0
  refine ⟨w.heap.size + 1, [{ target := .collected w.heap.size, args := #[] }], W1, { target := .fn (.func f) #[.pointer (some ⟨nb, 0, none⟩)], args := #[.func (.yield (w.heap.size + 1)) #[] #[]] }, W1, f,
    #[.func (.yield (w.heap.size + 1)) #[] #[], .pointer (some ⟨nb, 0, none⟩)], W1, ?_, ?_, fun _ _ => trivial, ?_, fun _ => by omega, ?_⟩
  · rw [← hW1, hrec]; exact run_enterLoop_outer _ _ _ _ _
  · simp only [resolve, hg]
    simp [go_sem]
  · simp [invoke, go_sem, hf]
  · obtain ⟨J, hJ⟩ : ∃ J : (Nat → Prop) → List Value → World → Prop, J = fun own2 pre W => ∃ own, (∀ k, own2 k ↔ (own k ∨ k = w.heap.size + 1 ∨ k = w.heap.size)) ∧ ¬ own (w.heap.size + 1) ∧ ¬ own w.heap.size ∧ I own pre W ∧
        W.heap[w.heap.size + 1]? = some (.loop (rec .ready none)) ∧ W.heap[w.heap.size]? = some (.deferred (some [])) := ⟨_, rfl⟩
    obtain ⟨Jx, hJx⟩ : ∃ Jx : (Nat → Prop) → List Value → World → Prop, Jx = fun own2 pre W => ∃ own c, (∀ k, own2 k ↔ (own k ∨ k = w.heap.size + 1 ∨ k = w.heap.size)) ∧ ¬ own (w.heap.size + 1) ∧ ¬ own w.heap.size ∧ Ix c own pre W ∧
        W.heap[w.heap.size + 1]? = some (.loop (rec .done (some c))) ∧ W.heap[w.heap.size]? = some (.deferred (some [])) := ⟨_, rfl⟩
    have sJ : SideV J := by
      rw [hJ]
      refine ⟨fun o2 pre W ⟨o, he, _, _, hi, hl, hk⟩ k hk2 => ?_, fun o2 pre W W' ⟨o, he, n1, n2, hi, hl, hk⟩ hs => ⟨o, he, n1, n2, sI.step o pre W W' hi (hs.mono fun k _ hn h => hn ((he k).2 (.inl h))), ?_, ?_⟩⟩
      · rcases (he k).1 hk2 with h | rfl | rfl
        · exact sI.lt o pre W hi k h
        · exact (Array.getElem?_eq_some_iff.1 hl).1
        · exact (Array.getElem?_eq_some_iff.1 hk).1
      · exact (hs.block _ (Array.getElem?_eq_some_iff.1 hl).1 (fun h => h ((he _).2 (.inr (.inl rfl))))).trans hl
      · exact (hs.block _ (Array.getElem?_eq_some_iff.1 hk).1 (fun h => h ((he _).2 (.inr (.inr rfl))))).trans hk
    have sJx : SideV Jx := by
      rw [hJx]
      refine ⟨fun o2 pre W ⟨o, c, he, _, _, hi, hl, hk⟩ k hk2 => ?_, fun o2 pre W W' ⟨o, c, he, n1, n2, hi, hl, hk⟩ hs => ⟨o, c, he, n1, n2, (sX c).step o pre W W' hi (hs.mono fun k _ hn h => hn ((he k).2 (.inl h))), ?_, ?_⟩⟩
      · rcases (he k).1 hk2 with h | rfl | rfl
        · exact (sX c).lt o pre W hi k h
        · exact (Array.getElem?_eq_some_iff.1 hl).1
        · exact (Array.getElem?_eq_some_iff.1 hk).1
      · exact (hs.block _ (Array.getElem?_eq_some_iff.1 hl).1 (fun h => h ((he _).2 (.inr (.inl rfl))))).trans hl
      · exact (hs.block _ (Array.getElem?_eq_some_iff.1 hk).1 (fun h => h ((he _).2 (.inr (.inr rfl))))).trans hk
    have hR : RndV (w.heap.size + 1) all J Jx := by
      intro o2 pre v W h hj hlt hh hp
      rw [hJ] at hj
      obtain ⟨o, he, n1, n2, hi, hl, hk⟩ := hj
      have hl1 : w.heap.size + 1 < h := hlt _ ((he _).2 (.inr (.inl rfl)))
      have hl0 : w.heap.size < h := by omega
      have hy := run_yield (P := Try.prog) (args := #[v]) hl (by rw [hrec]; exact hps.symm)
      rw [hrec] at hy
      refine ⟨fn, _, assign, body, hy, roundIn_of_wpIn hfn (hassign _ v W _ ⟨_, run_beginRound hl (by rw [hrec]), ?_⟩)⟩
      obtain ⟨W2, hW2⟩ : ∃ W2, W2 = W.putObj (w.heap.size + 1) (.loop { rec .ready none with state := .busy }) := ⟨_, rfl⟩
      rw [← hW2]
      have hs2 : W2.heap.size = W.heap.size := by rw [hW2]; simp
      have hk2 : ∀ (o : Nat → Prop), o (w.heap.size + 1) → Keep o W W2 := fun o ho => by rw [hW2]; exact Keep.putObj _ _ _ ho
      have hl2 : W2.heap[w.heap.size + 1]? = some (.loop { rec .ready none with state := .busy }) := by rw [hW2]; exact World.putObj_heap_same (by omega)
      have hi2 : I o pre W2 := sI.step o pre W W2 hi (hk2 _ n1)
      refine wpIn_mono (hbody _ o pre v W2 h hi2 (fun k hk => hlt k ((he k).2 (.inl hk))) (by omega) hp) ?_
      rintro e a3 W3 ⟨o', ho', hkp, hend⟩
      have hl3 : W3.heap[w.heap.size + 1]? = some (.loop { rec .ready none with state := .busy }) := (hkp.block _ (by omega) n1).trans hl2
      have hk3 : W3.heap[w.heap.size]? = some (.deferred (some [])) := (hkp.block _ (by omega) n2).trans (((hk2 (fun k => k = w.heap.size + 1) rfl).block _ (by omega) (by omega)).trans hk)
      have n1' : ¬ o' (w.heap.size + 1) := fun h => n1 (ho' _ (by omega) h)
      have n2' : ¬ o' w.heap.size := fun h => n2 (ho' _ (by omega) h)
      have fin : ∀ (jump : Option Code), ∃ W4, (Instr.endRound (w.heap.size + 1) jump).run Try.prog W3 = .ok (.bool jump.isNone) W4 ∧ W4.heap[w.heap.size + 1]? = some (.loop (rec (if jump.isNone then .ready else .done) jump)) ∧
          W4.heap[w.heap.size]? = some (.deferred (some [])) ∧ Keep (fun k => k = w.heap.size + 1) W3 W4 := fun jump => by
        have := run_endRound (P := Try.prog) jump hl3
        rw [hrec] at this ⊢
        exact ⟨_, this, World.putObj_heap_same (Array.getElem?_eq_some_iff.1 hl3).1, (World.putObj_heap_other (by omega)).trans hk3, Keep.putObj _ _ _ rfl⟩
      have hs3 := hkp.size
      have big : ∀ W4, Keep (fun k => k = w.heap.size + 1) W3 W4 → (∀ k, k < h → (o' k ∨ k = w.heap.size + 1 ∨ k = w.heap.size) → o2 k) ∧ (∀ k, k < h → ¬ o2 k → W4.heap[k]? = W.heap[k]?) ∧ W.heap.size ≤ W4.heap.size := fun W4 h4 => by
        have hs4 := h4.size
        refine ⟨fun k hk ho => (he k).2 (ho.imp (ho' k hk) id), fun k hk hn => ?_, by omega⟩
        have e1 : k ≠ w.heap.size + 1 := fun e => hn ((he k).2 (.inr (.inl e)))
        have e2 : ¬ o k := fun e => hn ((he k).2 (.inl e))
        exact (h4.block k (by omega) e1).trans ((hkp.block k (by omega) e2).trans ((hk2 (fun k => k = w.heap.size + 1) rfl).block k (by omega) e1))
      cases e with
      | normal =>
        obtain ⟨W4, hr, hl4, hk4, h4⟩ := fin none
        obtain ⟨g1, g2, g3⟩ := big W4 h4
        refine ⟨_, _, hr, fun k => o' k ∨ k = w.heap.size + 1 ∨ k = w.heap.size, g1, g2, g3, .inl ⟨rfl, ?_⟩⟩
        rw [hJ]
        exact ⟨o', fun k => Iff.rfl, n1', n2', sI.step _ _ _ _ hend (h4.mono fun k _ e => by subst e; exact n1'), hl4, hk4⟩
      | ret =>
        obtain ⟨W4, hr, hl4, hk4, h4⟩ := fin (some .ret)
        obtain ⟨g1, g2, g3⟩ := big W4 h4
        refine ⟨_, _, hr, fun k => o' k ∨ k = w.heap.size + 1 ∨ k = w.heap.size, g1, g2, g3, .inr ⟨rfl, ?_⟩⟩
        rw [hJx]
        exact ⟨o', .ret, fun k => Iff.rfl, n1', n2', (sX _).step _ _ _ _ hend (h4.mono fun k _ e => by subst e; exact n1'), hl4, hk4⟩
      | exit id =>
        obtain ⟨W4, hr, hl4, hk4, h4⟩ := fin (some (.exit id))
        obtain ⟨g1, g2, g3⟩ := big W4 h4
        refine ⟨_, _, hr, fun k => o' k ∨ k = w.heap.size + 1 ∨ k = w.heap.size, g1, g2, g3, .inr ⟨rfl, ?_⟩⟩
        rw [hJx]
        exact ⟨o', .exit id, fun k => Iff.rfl, n1', n2', (sX _).step _ _ _ _ hend (h4.mono fun k _ e => by subst e; exact n1'), hl4, hk4⟩
      | goto t =>
        obtain ⟨W4, hr, hl4, hk4, h4⟩ := fin (some (.goto t))
        obtain ⟨g1, g2, g3⟩ := big W4 h4
        refine ⟨_, _, hr, fun k => o' k ∨ k = w.heap.size + 1 ∨ k = w.heap.size, g1, g2, g3, .inr ⟨rfl, ?_⟩⟩
        rw [hJx]
        exact ⟨o', .goto t, fun k => Iff.rfl, n1', n2', (sX _).step _ _ _ _ hend (h4.mono fun k _ e => by subst e; exact n1'), hl4, hk4⟩
      | panic ch => exact hend.elim
      | outgrown => exact hend.elim
    have hj1 : J (fun k => own k ∨ k = w.heap.size + 1 ∨ k = w.heap.size) [] W1 := by
      rw [hJ]
      exact ⟨own, fun k => Iff.rfl, fun h => by have := hlt0 _ h; omega, fun h => by have := hlt0 _ h; omega, hI1, hL1, hK1⟩
    have hcall := hit (w.heap.size + 1) J Jx _ W1 sJ sJx hR hB1 (fun h => by rcases h with h | h | h; exact hnb h; omega; omega) hj1
    refine CallsIn.mono (callsIn_wide.2 hcall) ?_
    rintro e W' ⟨⟨v, rfl⟩, (⟨o2, hj⟩ | ⟨o2, q, hq, hj⟩)⟩
    · rw [hJ] at hj
      obtain ⟨o, he, n1, n2, hi, hl, hk⟩ := hj
      have hend := run_endLoop (P := Try.prog) hl (by rw [hrec]; simp)
      refine ⟨none, _, by rw [hrec] at hend; exact hend, ?_⟩
      exact hdone w.heap.size o _ (sI.step _ _ _ _ hi (Keep.putObj _ _ _ n1)) ((World.putObj_heap_other (by omega)).trans hk) (Nat.le_refl _) n2
    · rw [hJx] at hj
      obtain ⟨o, c, he, n1, n2, hi, hl, hk⟩ := hj
      have hend := run_endLoop (P := Try.prog) hl (by rw [hrec]; simp)
      refine ⟨some c, _, by rw [hrec] at hend; exact hend, ?_⟩
      exact wpIn_wide.2 (hstop w.heap.size c o q _ hq ((sX c).step _ _ _ _ hi (Keep.putObj _ _ _ n1)) ((World.putObj_heap_other (by omega)).trans hk) (Nat.le_refl _) n2)

end Go.Proofs.Ythchpoabncdicaa

namespace Go.Proofs.Ythchpoabncdicaa

structure Pas where
  grass : Int
  bears : Int
  dry : Int
  wet : Int
  stub : Int
  sleep : Int
structure Pas.Ok (p : Pas) : Prop where
  b : 1 ≤ p.bears ∧ p.bears ≤ 99
  g : 0 ≤ p.grass ∧ p.grass ≤ p.bears
  d : 0 ≤ p.dry ∧ p.dry ≤ 9
  w : p.dry ≤ p.wet ∧ p.wet ≤ 9
  st : 0 ≤ p.stub ∧ p.stub ≤ p.bears
  sl : 0 ≤ p.sleep ∧ p.sleep ≤ 5
structure Sky where
  days : Int
  drought : Int
  flood : Int
structure Sky.Ok (s : Sky) : Prop where
  d : 1 ≤ s.days ∧ s.days ≤ 8
  r : 1 ≤ s.drought ∧ s.drought ≤ s.days
  f : 1 ≤ s.flood ∧ s.flood ≤ s.days
/-- What is left, whether it is bitten short, and how it stands at the end of the day. -/
def ateG (g h : Int) : Int := g - min h g
def shortG (p : Pas) (g h : Int) : Bool := decide (h > 0) && decide (ateG g h < p.stub)
def dayG (p : Pas) (g a h : Int) (wet : Bool) : Int := if shortG p g h = true then ateG g h else if a > 0 then ateG g h else if wet = true then min p.bears (ateG g h + p.wet) else min p.bears (ateG g h + p.dry)
def dayA (p : Pas) (g a h : Int) : Int := if shortG p g h = true then p.sleep else if a > 0 then a - 1 else a

/-- How a pasture stands. -/
structure StandOk (p : Pas) (g a : Int) : Prop where
  g : 0 ≤ g ∧ g ≤ p.bears
  a : 0 ≤ a ∧ a ≤ p.sleep
theorem stand_next {p : Pas} (hp : p.Ok) {g a h : Int} {wet : Bool} (hs : StandOk p g a) (hh : 0 ≤ h) : StandOk p (dayG p g a h wet) (dayA p g a h) := by
  obtain ⟨⟨g1, g2⟩, ⟨a1, a2⟩⟩ := hs
  have h1 := hp.d
  have h2 := hp.w
  have h3 := hp.sl
  have e1 : 0 ≤ ateG g h ∧ ateG g h ≤ p.bears := by unfold ateG; omega
  constructor
  · unfold dayG
    repeat' split
    all_goals omega
  · unfold dayA
    repeat' split
    all_goals omega
/-- Less is eaten, and it stands at least as well. -/
theorem day_mono {p : Pas} (hp : p.Ok) {g a h g' a' h' : Int} {wet : Bool} (hs : StandOk p g a) (hs' : StandOk p g' a') (hg : g' ≤ g) (ha : a ≤ a') (h0 : 0 ≤ h) (hh : h ≤ h') :
    dayG p g' a' h' wet ≤ dayG p g a h wet ∧ dayA p g a h ≤ dayA p g' a' h' := by
  obtain ⟨⟨g1, g2⟩, ⟨a1, a2⟩⟩ := hs
  obtain ⟨⟨g3, g4⟩, ⟨a3, a4⟩⟩ := hs'
  have h1 := hp.d
  have h2 := hp.w
  have h3 := hp.sl
  have e0 : ateG g' h' ≤ ateG g h := by unfold ateG; omega
  have e1 : 0 ≤ ateG g h ∧ ateG g h ≤ p.bears := by unfold ateG; omega
  have e2 : 0 ≤ ateG g' h' ∧ ateG g' h' ≤ p.bears := by unfold ateG; omega
  by_cases s1 : shortG p g h = true
  · have s2 : shortG p g' h' = true := by
      unfold shortG at s1 ⊢
      rw [Bool.and_eq_true, decide_eq_true_eq, decide_eq_true_eq] at s1 ⊢
      omega
    unfold dayG dayA
    rw [if_pos s1, if_pos s2, if_pos s1, if_pos s2]
    omega
  · unfold dayG dayA
    rw [if_neg s1, if_neg s1]
    by_cases s2 : shortG p g' h' = true
    · rw [if_pos s2, if_pos s2]
      constructor
      · repeat' split
        all_goals omega
      · split <;> omega
    · rw [if_neg s2, if_neg s2]
      constructor
      · repeat' split
        all_goals omega
      · repeat' split
        all_goals omega

/-- Whether heads are fed on all days of a rain. -/
def fedR (p : Pas) (h : Int) : List Nat → Int → Int → Bool
  | [], _, _ => true
  | l :: r, g, a => if h > g then false else fedR p h r (dayG p g a h (l == 119)) (dayA p g a h)
theorem fed_mono {p : Pas} (hp : p.Ok) {h h' : Int} (h0 : 0 ≤ h) (hh : h ≤ h') : ∀ {r : List Nat} {g a g' a' : Int}, StandOk p g a → StandOk p g' a' → g' ≤ g → a ≤ a' → fedR p h' r g' a' = true → fedR p h r g a = true
  | [], _, _, _, _, _, _, _, _, _ => rfl
  | l :: r, g, a, g', a', s1, s2, hg, ha, hf => by
    unfold fedR at hf ⊢
    by_cases e : h' > g'
    · rw [if_pos e] at hf; exact absurd hf (by decide)
    · rw [if_neg e] at hf
      rw [if_neg (by omega)]
      obtain ⟨m1, m2⟩ := day_mono hp (wet := l == 119) s1 s2 hg ha h0 hh
      exact fed_mono hp h0 hh (stand_next hp s1 h0) (stand_next hp s2 (by omega)) m1 m2 hf
theorem fed_none {p : Pas} (hp : p.Ok) : ∀ {r : List Nat} {g a : Int}, StandOk p g a → fedR p 0 r g a = true
  | [], _, _, _ => rfl
  | l :: r, g, a, s => by
    unfold fedR
    rw [if_neg (by have := s.g; omega)]
    exact fed_none hp (stand_next hp s (Int.le_refl 0))

/-- The rains of a sky. -/
def spOk (s : Sky) (x : Nat × Int) (l : Nat) : Bool := if x.1 ≠ l then true else decide (x.2 < (if l = 119 then s.flood else s.drought))
def spNx (x : Nat × Int) (l : Nat) : Nat × Int := if x.1 ≠ l then (l, 1) else (l, x.2 + 1)
def growR (s : Sky) : Nat → List Nat → Nat × Int → List (List Nat)
  | 0, r, _ => [r]
  | k + 1, r, x => (if spOk s x 100 = true then growR s k (r ++ [100]) (spNx x 100) else []) ++ (if spOk s x 119 = true then growR s k (r ++ [119]) (spNx x 119) else [])
def rainsF (s : Sky) : List (List Nat) := growR s s.days.toNat [] (0, 0)
theorem mem_growR {s : Sky} : ∀ {k : Nat} {r : List Nat} {x : Nat × Int} {t : List Nat}, (∀ l ∈ r, l = 100 ∨ l = 119) → t ∈ growR s k r x → t.length = r.length + k ∧ ∀ l ∈ t, l = 100 ∨ l = 119
  | 0, r, x, t, hr, h => by
    unfold growR at h
    rw [List.mem_singleton] at h
    subst h
    exact ⟨rfl, hr⟩
  | k + 1, r, x, t, hr, h => by
    unfold growR at h
    rcases List.mem_append.1 h with h | h
    · split at h
      · obtain ⟨h1, h2⟩ := mem_growR (fun l hl => by rcases List.mem_append.1 hl with hl | hl; exact hr l hl; rw [List.mem_singleton] at hl; exact .inl hl) h
        exact ⟨by rw [h1, List.length_append, List.length_singleton]; omega, h2⟩
      · simp at h
    · split at h
      · obtain ⟨h1, h2⟩ := mem_growR (fun l hl => by rcases List.mem_append.1 hl with hl | hl; exact hr l hl; rw [List.mem_singleton] at hl; exact .inr hl) h
        exact ⟨by rw [h1, List.length_append, List.length_singleton]; omega, h2⟩
      · simp at h
theorem mem_rainsF {s : Sky} {t : List Nat} (h : t ∈ rainsF s) : t.length = s.days.toNat ∧ ∀ l ∈ t, l = 100 ∨ l = 119 := by
  obtain ⟨h1, h2⟩ := mem_growR (by simp) h
  exact ⟨by simpa using h1, h2⟩

/-- Whether heads are fed in all rains. -/
def fedAll (p : Pas) (s : Sky) (h : Int) : Bool := (rainsF s).all fun r => fedR p h r p.grass 0
theorem stand_start {p : Pas} (hp : p.Ok) : StandOk p p.grass 0 := ⟨hp.g, by have := hp.sl; omega⟩
theorem fedAll_mono {p : Pas} {s : Sky} (hp : p.Ok) {h h' : Int} (h0 : 0 ≤ h) (hh : h ≤ h') (hf : fedAll p s h' = true) : fedAll p s h = true := by
  unfold fedAll at hf ⊢
  rw [List.all_eq_true] at hf ⊢
  exact fun r hr => fed_mono hp h0 hh (stand_start hp) (stand_start hp) (Int.le_refl _) (Int.le_refl _) (hf r hr)
theorem fedAll_none {p : Pas} {s : Sky} (hp : p.Ok) : fedAll p s 0 = true := by
  unfold fedAll
  rw [List.all_eq_true]
  exact fun r _ => fed_none hp (stand_start hp)
/-- What the greatest number of heads means. -/
structure IsHeads (p : Pas) (s : Sky) (n : Int) : Prop where
  r : 0 ≤ n ∧ n ≤ 40
  y : n = 0 ∨ fedAll p s n = true
  no : ∀ m, n < m → m ≤ 40 → fedAll p s m = false
theorem IsHeads.fed {p : Pas} {s : Sky} {n h : Int} (hp : p.Ok) (hn : IsHeads p s n) (h0 : 0 ≤ h) (h1 : h ≤ 40) : fedAll p s h = decide (h ≤ n) := by
  by_cases e : h ≤ n
  · rw [decide_eq_true e]
    rcases hn.y with e' | e'
    · rw [show h = 0 by omega]; exact fedAll_none hp
    · exact fedAll_mono hp h0 e e'
  · rw [decide_eq_false e]
    exact hn.no h (by omega) h1

end Go.Proofs.Ythchpoabncdicaa

namespace Go.Proofs.Ythchpoabncdicaa
open Go.RowKit

theorem gbetween_c (n lo hi : Int) (w : World) :
    Calls Try.prog 136 #[.int .i64 n, .int .i64 lo, .int .i64 hi] w fun e w' => e = .returned (.bool (btw n lo hi)) ∧ w = w' := by
  by_cases h : lo ≤ n
  · go_enter Try.func136, Try.ntmps136
    go_wp2
    go_ret
    exact ⟨ret_bool (by simp [btw, h]), rfl⟩
  · go_enter Try.func136, Try.ntmps136
    go_wp2
    go_ret
    exact ⟨ret_bool (by simp [btw]; omega), rfl⟩

set_option maxRecDepth 100000 in
set_option maxHeartbeats 2000000 in
theorem day_c {w : World} {mb : Nat} {p : Pas} {g a n : Int} (hM : Blk mb #[.int .i64 p.grass, .int .i64 p.bears, .int .i64 p.dry, .int .i64 p.wet, .int .i64 p.stub, .int .i64 p.sleep, .int .i64 g, .int .i64 a] 166 w) (hp : p.Ok) (hg : 0 ≤ g ∧ g ≤ 99) (ha : 0 ≤ a ∧ a ≤ 5) (hh : 0 ≤ n ∧ n ≤ 40) (wet : Bool) :
    Calls Try.prog 145 #[.pointer (some ⟨mb, 0, none⟩), .int .i64 n, .bool wet] w fun e w' => e = .returned (.tuple #[.bool (decide (n > g)), .bool (shortG p g n)]) ∧ Blk mb #[.int .i64 p.grass, .int .i64 p.bears, .int .i64 p.dry, .int .i64 p.wet, .int .i64 p.stub, .int .i64 p.sleep, .int .i64 (dayG p g a n wet), .int .i64 (dayA p g a n)] 166 w' ∧ Keep (fun k => k = mb) w w' := by
  have hb := hp.b
  have hd := hp.d
  have hw := hp.w
  have hst := hp.st
  have hsl := hp.sl
  have hml := hM.lt
  have c6 := hM.cell 6
  have hg1 : ∃ g1, g1 = ateG g n := ⟨_, rfl⟩
  obtain ⟨g1, hg1⟩ := hg1
  have hg1v : g1 = g - (if g < n then g else n) := by rw [hg1, ateG]; split <;> omega
  have hg1b : 0 ≤ g1 ∧ g1 ≤ 99 := by rw [hg1v]; split <;> omega
  have hss : shortG p g n = (decide (n > 0) && decide (g1 < p.stub)) := by rw [shortG, hg1]
  have hdg : ∀ wt, dayG p g a n wt = if shortG p g n = true then g1 else if a > 0 then g1 else if wt = true then min p.bears (g1 + p.wet) else min p.bears (g1 + p.dry) := fun wt => by rw [dayG, hg1]
  have hda : dayA p g a n = if shortG p g n = true then p.sleep else if a > 0 then a - 1 else a := rfl
  have HSS := Lib.hid hss
  have HDG := Lib.hid hdg
  have HDA := Lib.hid hda
  have HG1 := Lib.hid hg1v
  have bw : IntKind.i64.wrap (g - if g < n then g else n) = g1 := by
    rw [← hg1v]
    exact IntWalk.i64_in _ (by omega)
  clear hss hdg hda hg1v hg1
  go_enter Try.func145, Try.ntmps145
  go_wp2_with fail
  clear c6
  refine wp_region_mix2 (.pur 0 (.pur 1 (.pur 2 (.pur 3 (.one 4 (.pur 5 (.pur 6 (.pur 7 (.pur 8 (.pur 9 (.one 10 (.pur 11 (.pur 12 (.pur 13 (.pur 14 (.pur 15 (.act 16 .fin))))))))))))))))) 16 (Blk mb #[.int .i64 p.grass, .int .i64 p.bears, .int .i64 p.dry, .int .i64 p.wet, .int .i64 p.stub, .int .i64 p.sleep, .int .i64 g, .int .i64 a] 166) (fun _ => True) (by kernel_rfl) (by kernel_rfl) rfl (by kernel_rfl) (Blk.call hM (Qt.below ((Qt.refl w).drewN 1) _)) (fun wd hqd _ => ?_)
  refine mix_pur2 rfl (fun K hK => ?_)
  go_simp
  first | refine ⟨_, fun _ => rfl, hK _ ?_⟩ | refine hK _ ?_
  clear hK K
  refine mix_pur2 rfl (fun K hK => ?_)
  go_simp
  first | refine ⟨_, fun _ => rfl, hK _ ?_⟩ | refine hK _ ?_
  clear hK K
  refine mix_pur2 rfl (fun K hK => ?_)
  go_simp
  first | refine ⟨_, fun _ => rfl, hK _ ?_⟩ | refine hK _ ?_
  clear hK K
  refine mix_pur2 rfl (fun K hK => ?_)
  go_simp
  first | refine ⟨_, fun _ => rfl, hK _ ?_⟩ | refine hK _ ?_
  clear hK K
  refine mix_load2 rfl rfl rfl (.int .i64 g) (fun w' h => by have h : (Blk mb #[.int .i64 p.grass, .int .i64 p.bears, .int .i64 p.dry, .int .i64 p.wet, .int .i64 p.stub, .int .i64 p.sleep, .int .i64 g, .int .i64 a] 166) w' := h; have h0 := h.cell 6; go_simp) rfl ?_
  refine mix_pur2 rfl (fun K hK => ?_)
  go_simp
  first | refine ⟨_, fun _ => rfl, hK _ ?_⟩ | refine hK _ ?_
  clear hK K
  refine mix_pur2 rfl (fun K hK => ?_)
  go_simp
  first | refine ⟨_, fun _ => rfl, hK _ ?_⟩ | refine hK _ ?_
  clear hK K
  refine mix_pur2 rfl (fun K hK => ?_)
  go_simp
  first | refine ⟨_, fun _ => rfl, hK _ ?_⟩ | refine hK _ ?_
  clear hK K
  refine mix_pur2 rfl (fun K hK => ?_)
  go_simp
  first | refine ⟨_, fun _ => rfl, hK _ ?_⟩ | refine hK _ ?_
  clear hK K
  refine mix_pur2 rfl (fun K hK => ?_)
  go_simp
  first | refine ⟨_, fun _ => rfl, hK _ ?_⟩ | refine hK _ ?_
  clear hK K
  refine mix_load2 rfl rfl rfl (.int .i64 g) (fun w' h => by have h : (Blk mb #[.int .i64 p.grass, .int .i64 p.bears, .int .i64 p.dry, .int .i64 p.wet, .int .i64 p.stub, .int .i64 p.sleep, .int .i64 g, .int .i64 a] 166) w' := h; have h0 := h.cell 6; go_simp) rfl ?_
  refine mix_pur2 rfl (fun K hK => ?_)
  go_simp
  first | refine ⟨_, fun _ => rfl, hK _ ?_⟩ | refine hK _ ?_
  clear hK K
  refine mix_pur2 rfl (fun K hK => ?_)
  go_simp
  first | refine ⟨_, fun _ => rfl, hK _ ?_⟩ | refine hK _ ?_
  clear hK K
  refine mix_pur2 rfl (fun K hK => ?_)
  go_simp
  first | refine ⟨_, fun _ => rfl, hK _ ?_⟩ | refine hK _ ?_
  clear hK K
  refine mix_pur2 rfl (fun K hK => ?_)
  go_simp
  first | refine ⟨_, fun _ => rfl, hK _ ?_⟩ | refine hK _ ?_
  clear hK K
  refine mix_pur2 rfl (fun K hK => ?_)
  go_simp
  first | refine ⟨_, fun _ => rfl, hK _ ?_⟩ | refine hK _ ?_
  clear hK K
  refine mix_eff2 rfl true rfl (fun K hK => ?_)
  have hI := hM.call (hqd.below _)
  have y0 := hI.cell 6
  have y1 := hI.free 6
  go_simp
  refine hK _ _ trivial ?_
  clear hK K y0 y1
  refine mix_done2 ?_
  obtain ⟨u6, hu6⟩ : ∃ u, u = decide (g < n) := ⟨_, rfl⟩
  rw [← hu6]
  have HU6 := Lib.hid hu6
  clear hu6
  obtain ⟨mn, hmn⟩ : ∃ m, m = (if g < n then g else n) := ⟨_, rfl⟩
  rw [← hmn]
  clear hmn
  have hM2 : Blk mb #[.int .i64 p.grass, .int .i64 p.bears, .int .i64 p.dry, .int .i64 p.wet, .int .i64 p.stub, .int .i64 p.sleep, .int .i64 g1, .int .i64 a] 166 (wd.setCell ⟨mb, 6, none⟩ (.int .i64 g1)) := by simpa using (hM.call (hqd.below _)).set 6 (.int .i64 g1)
  have hK2 : Keep (fun k => k = mb) w (wd.setCell ⟨mb, 6, none⟩ (.int .i64 g1)) := (Keep.qt hqd).trans (Keep.setCell _ ⟨mb, 6, none⟩ _ rfl)
  generalize wd.setCell ⟨mb, 6, none⟩ (.int .i64 g1) = w2 at *
  clear bw hqd
  by_cases hh0 : 0 < n
  · have bh : decide (n > 0) = true := decide_eq_true hh0
    by_cases hst2 : g1 < p.stub
    · have bs : decide (g1 < p.stub) = true := decide_eq_true hst2
      go_wp2_with fail
      refine wp_region_mix2 (.pur 0 (.pur 1 (.pur 2 (.pur 3 (.pur 4 (.pur 5 (.pur 6 (.one 7 (.pur 8 (.pur 9 (.pur 10 (.pur 11 (.one 12 (.pur 13 (.pur 14 (.pur 15 .fin)))))))))))))))) 99 (Blk mb #[.int .i64 p.grass, .int .i64 p.bears, .int .i64 p.dry, .int .i64 p.wet, .int .i64 p.stub, .int .i64 p.sleep, .int .i64 g1, .int .i64 a] 166) (fun _ => True) (by kernel_rfl) (by kernel_rfl) rfl (by kernel_rfl) (Blk.call hM2 (Qt.below ((Qt.refl w2).drewN 1) _)) (fun w3 hq3 _ => ?_)
      refine mix_pur2 rfl (fun K hK => ?_)
      go_simp
      first | refine ⟨_, fun _ => rfl, hK _ ?_⟩ | refine hK _ ?_
      clear hK K
      refine mix_pur2 rfl (fun K hK => ?_)
      go_simp
      first | refine ⟨_, fun _ => rfl, hK _ ?_⟩ | refine hK _ ?_
      clear hK K
      refine mix_pur2 rfl (fun K hK => ?_)
      go_simp
      first | refine ⟨_, fun _ => rfl, hK _ ?_⟩ | refine hK _ ?_
      clear hK K
      refine mix_pur2 rfl (fun K hK => ?_)
      go_simp
      first | refine ⟨_, fun _ => rfl, hK _ ?_⟩ | refine hK _ ?_
      clear hK K
      refine mix_pur2 rfl (fun K hK => ?_)
      go_simp
      first | refine ⟨_, fun _ => rfl, hK _ ?_⟩ | refine hK _ ?_
      clear hK K
      refine mix_pur2 rfl (fun K hK => ?_)
      go_simp
      first | refine ⟨_, fun _ => rfl, hK _ ?_⟩ | refine hK _ ?_
      clear hK K
      refine mix_pur2 rfl (fun K hK => ?_)
      go_simp
      first | refine ⟨_, fun _ => rfl, hK _ ?_⟩ | refine hK _ ?_
      clear hK K
      refine mix_loadg2 rfl rfl (.int .i64 g1) (by go_simp) (fun w' h => by have h : (Blk mb #[.int .i64 p.grass, .int .i64 p.bears, .int .i64 p.dry, .int .i64 p.wet, .int .i64 p.stub, .int .i64 p.sleep, .int .i64 g1, .int .i64 a] 166) w' := h; have h0 := h.cell 6; go_simp) rfl ?_
      refine mix_pur2 rfl (fun K hK => ?_)
      go_simp
      first | refine ⟨_, fun _ => rfl, hK _ ?_⟩ | refine hK _ ?_
      clear hK K
      refine mix_pur2 rfl (fun K hK => ?_)
      go_simp
      first | refine ⟨_, fun _ => rfl, hK _ ?_⟩ | refine hK _ ?_
      clear hK K
      refine mix_pur2 rfl (fun K hK => ?_)
      go_simp
      first | refine ⟨_, fun _ => rfl, hK _ ?_⟩ | refine hK _ ?_
      clear hK K
      refine mix_pur2 rfl (fun K hK => ?_)
      go_simp
      first | refine ⟨_, fun _ => rfl, hK _ ?_⟩ | refine hK _ ?_
      clear hK K
      refine mix_loadg2 rfl rfl (.int .i64 p.stub) (by go_simp) (fun w' h => by have h : (Blk mb #[.int .i64 p.grass, .int .i64 p.bears, .int .i64 p.dry, .int .i64 p.wet, .int .i64 p.stub, .int .i64 p.sleep, .int .i64 g1, .int .i64 a] 166) w' := h; have h0 := h.cell 4; go_simp) rfl ?_
      refine mix_pur2 rfl (fun K hK => ?_)
      go_simp
      first | refine ⟨_, fun _ => rfl, hK _ ?_⟩ | refine hK _ ?_
      clear hK K
      refine mix_pur2 rfl (fun K hK => ?_)
      go_simp
      first | refine ⟨_, fun _ => rfl, hK _ ?_⟩ | refine hK _ ?_
      clear hK K
      refine mix_pur2 rfl (fun K hK => ?_)
      go_simp
      first | refine ⟨_, fun _ => rfl, hK _ ?_⟩ | refine hK _ ?_
      clear hK K
      refine mix_done2 ?_
      have hM3 := hM2.call (hq3.below _)
      have hK3 := hK2.trans (Keep.qt hq3)
      have hs3 := hM3.lt
      clear hM2 hK2 hq3
      have c5 := hM3.cell 5
      have c7 := hM3.cell 7
      have f7 := hM3.free 7
      go_wp2_with fail
      go_ret2
      rw [HDG.out, HDA.out, HSS.out, bh, bs]
      exact ⟨by rw [HU6.out]; rfl, by simpa using hM3.set 7 (.int .i64 p.sleep), hK3.trans (Keep.setCell _ ⟨mb, 7, none⟩ _ rfl)⟩
    · have bs : decide (g1 < p.stub) = false := decide_eq_false hst2
      go_wp2_with fail
      refine wp_region_mix2 (.pur 0 (.pur 1 (.pur 2 (.pur 3 (.pur 4 (.pur 5 (.pur 6 (.one 7 (.pur 8 (.pur 9 (.pur 10 (.pur 11 (.one 12 (.pur 13 (.pur 14 (.pur 15 .fin)))))))))))))))) 99 (Blk mb #[.int .i64 p.grass, .int .i64 p.bears, .int .i64 p.dry, .int .i64 p.wet, .int .i64 p.stub, .int .i64 p.sleep, .int .i64 g1, .int .i64 a] 166) (fun _ => True) (by kernel_rfl) (by kernel_rfl) rfl (by kernel_rfl) (Blk.call hM2 (Qt.below ((Qt.refl w2).drewN 1) _)) (fun w3 hq3 _ => ?_)
      refine mix_pur2 rfl (fun K hK => ?_)
      go_simp
      first | refine ⟨_, fun _ => rfl, hK _ ?_⟩ | refine hK _ ?_
      clear hK K
      refine mix_pur2 rfl (fun K hK => ?_)
      go_simp
      first | refine ⟨_, fun _ => rfl, hK _ ?_⟩ | refine hK _ ?_
      clear hK K
      refine mix_pur2 rfl (fun K hK => ?_)
      go_simp
      first | refine ⟨_, fun _ => rfl, hK _ ?_⟩ | refine hK _ ?_
      clear hK K
      refine mix_pur2 rfl (fun K hK => ?_)
      go_simp
      first | refine ⟨_, fun _ => rfl, hK _ ?_⟩ | refine hK _ ?_
      clear hK K
      refine mix_pur2 rfl (fun K hK => ?_)
      go_simp
      first | refine ⟨_, fun _ => rfl, hK _ ?_⟩ | refine hK _ ?_
      clear hK K
      refine mix_pur2 rfl (fun K hK => ?_)
      go_simp
      first | refine ⟨_, fun _ => rfl, hK _ ?_⟩ | refine hK _ ?_
      clear hK K
      refine mix_pur2 rfl (fun K hK => ?_)
      go_simp
      first | refine ⟨_, fun _ => rfl, hK _ ?_⟩ | refine hK _ ?_
      clear hK K
      refine mix_loadg2 rfl rfl (.int .i64 g1) (by go_simp) (fun w' h => by have h : (Blk mb #[.int .i64 p.grass, .int .i64 p.bears, .int .i64 p.dry, .int .i64 p.wet, .int .i64 p.stub, .int .i64 p.sleep, .int .i64 g1, .int .i64 a] 166) w' := h; have h0 := h.cell 6; go_simp) rfl ?_
      refine mix_pur2 rfl (fun K hK => ?_)
      go_simp
      first | refine ⟨_, fun _ => rfl, hK _ ?_⟩ | refine hK _ ?_
      clear hK K
      refine mix_pur2 rfl (fun K hK => ?_)
      go_simp
      first | refine ⟨_, fun _ => rfl, hK _ ?_⟩ | refine hK _ ?_
      clear hK K
      refine mix_pur2 rfl (fun K hK => ?_)
      go_simp
      first | refine ⟨_, fun _ => rfl, hK _ ?_⟩ | refine hK _ ?_
      clear hK K
      refine mix_pur2 rfl (fun K hK => ?_)
      go_simp
      first | refine ⟨_, fun _ => rfl, hK _ ?_⟩ | refine hK _ ?_
      clear hK K
      refine mix_loadg2 rfl rfl (.int .i64 p.stub) (by go_simp) (fun w' h => by have h : (Blk mb #[.int .i64 p.grass, .int .i64 p.bears, .int .i64 p.dry, .int .i64 p.wet, .int .i64 p.stub, .int .i64 p.sleep, .int .i64 g1, .int .i64 a] 166) w' := h; have h0 := h.cell 4; go_simp) rfl ?_
      refine mix_pur2 rfl (fun K hK => ?_)
      go_simp
      first | refine ⟨_, fun _ => rfl, hK _ ?_⟩ | refine hK _ ?_
      clear hK K
      refine mix_pur2 rfl (fun K hK => ?_)
      go_simp
      first | refine ⟨_, fun _ => rfl, hK _ ?_⟩ | refine hK _ ?_
      clear hK K
      refine mix_pur2 rfl (fun K hK => ?_)
      go_simp
      first | refine ⟨_, fun _ => rfl, hK _ ?_⟩ | refine hK _ ?_
      clear hK K
      refine mix_done2 ?_
      have hM3 := hM2.call (hq3.below _)
      have hK3 := hK2.trans (Keep.qt hq3)
      have hs3 := hM3.lt
      clear hM2 hK2 hq3
      by_cases ha0 : 0 < a
      · have ba : decide (a > 0) = true := decide_eq_true ha0
        have c7 := hM3.cell 7
        have f7 := hM3.free 7
        go_wp2_with fail
        go_ret2
        rw [HDG.out, HDA.out, HSS.out, bh, bs]
        refine ⟨by rw [HU6.out]; rfl, ?_, hK3.trans (Keep.setCell _ ⟨mb, 7, none⟩ _ rfl)⟩
        simpa [ha0] using hM3.set 7 (.int .i64 (a - 1))
      · have ba : decide (a > 0) = false := decide_eq_false ha0
        have c7 := hM3.cell 7
        have bw1 : IntKind.i64.wrap (g1 + p.wet) = g1 + p.wet := IntWalk.i64_in _ (by omega)
        have bw2 : IntKind.i64.wrap (g1 + p.dry) = g1 + p.dry := IntWalk.i64_in _ (by omega)
        cases wet with
        | true =>
          go_wp2_with fail
          refine wp_region_mix2 (.pur 0 (.pur 1 (.pur 2 (.pur 3 (.pur 4 (.one 5 (.pur 6 (.pur 7 (.pur 8 (.pur 9 (.one 10 (.pur 11 (.pur 12 (.pur 13 (.pur 14 (.one 15 (.pur 16 (.pur 17 (.pur 18 (.pur 19 (.pur 20 (.act 21 .fin)))))))))))))))))))))) 21 (Blk mb #[.int .i64 p.grass, .int .i64 p.bears, .int .i64 p.dry, .int .i64 p.wet, .int .i64 p.stub, .int .i64 p.sleep, .int .i64 g1, .int .i64 a] 166) (fun _ => True) (by kernel_rfl) (by kernel_rfl) rfl (by kernel_rfl) (Blk.call hM3 (Qt.below ((Qt.refl w3).drewN 1) _)) (fun w4 hq4 _ => ?_)
          refine mix_pur2 rfl (fun K hK => ?_)
          go_simp
          first | refine ⟨_, fun _ => rfl, hK _ ?_⟩ | refine hK _ ?_
          clear hK K
          refine mix_pur2 rfl (fun K hK => ?_)
          go_simp
          first | refine ⟨_, fun _ => rfl, hK _ ?_⟩ | refine hK _ ?_
          clear hK K
          refine mix_pur2 rfl (fun K hK => ?_)
          go_simp
          first | refine ⟨_, fun _ => rfl, hK _ ?_⟩ | refine hK _ ?_
          clear hK K
          refine mix_pur2 rfl (fun K hK => ?_)
          go_simp
          first | refine ⟨_, fun _ => rfl, hK _ ?_⟩ | refine hK _ ?_
          clear hK K
          refine mix_pur2 rfl (fun K hK => ?_)
          go_simp
          first | refine ⟨_, fun _ => rfl, hK _ ?_⟩ | refine hK _ ?_
          clear hK K
          refine mix_load2 rfl rfl rfl (.int .i64 p.bears) (fun w' h => by have h : (Blk mb #[.int .i64 p.grass, .int .i64 p.bears, .int .i64 p.dry, .int .i64 p.wet, .int .i64 p.stub, .int .i64 p.sleep, .int .i64 g1, .int .i64 a] 166) w' := h; have h0 := h.cell 1; go_simp) rfl ?_
          refine mix_pur2 rfl (fun K hK => ?_)
          go_simp
          first | refine ⟨_, fun _ => rfl, hK _ ?_⟩ | refine hK _ ?_
          clear hK K
          refine mix_pur2 rfl (fun K hK => ?_)
          go_simp
          first | refine ⟨_, fun _ => rfl, hK _ ?_⟩ | refine hK _ ?_
          clear hK K
          refine mix_pur2 rfl (fun K hK => ?_)
          go_simp
          first | refine ⟨_, fun _ => rfl, hK _ ?_⟩ | refine hK _ ?_
          clear hK K
          refine mix_pur2 rfl (fun K hK => ?_)
          go_simp
          first | refine ⟨_, fun _ => rfl, hK _ ?_⟩ | refine hK _ ?_
          clear hK K
          refine mix_load2 rfl rfl rfl (.int .i64 g1) (fun w' h => by have h : (Blk mb #[.int .i64 p.grass, .int .i64 p.bears, .int .i64 p.dry, .int .i64 p.wet, .int .i64 p.stub, .int .i64 p.sleep, .int .i64 g1, .int .i64 a] 166) w' := h; have h0 := h.cell 6; go_simp) rfl ?_
          refine mix_pur2 rfl (fun K hK => ?_)
          go_simp
          first | refine ⟨_, fun _ => rfl, hK _ ?_⟩ | refine hK _ ?_
          clear hK K
          refine mix_pur2 rfl (fun K hK => ?_)
          go_simp
          first | refine ⟨_, fun _ => rfl, hK _ ?_⟩ | refine hK _ ?_
          clear hK K
          refine mix_pur2 rfl (fun K hK => ?_)
          go_simp
          first | refine ⟨_, fun _ => rfl, hK _ ?_⟩ | refine hK _ ?_
          clear hK K
          refine mix_pur2 rfl (fun K hK => ?_)
          go_simp
          first | refine ⟨_, fun _ => rfl, hK _ ?_⟩ | refine hK _ ?_
          clear hK K
          refine mix_load2 rfl rfl rfl (.int .i64 p.wet) (fun w' h => by have h : (Blk mb #[.int .i64 p.grass, .int .i64 p.bears, .int .i64 p.dry, .int .i64 p.wet, .int .i64 p.stub, .int .i64 p.sleep, .int .i64 g1, .int .i64 a] 166) w' := h; have h0 := h.cell 3; go_simp) rfl ?_
          refine mix_pur2 rfl (fun K hK => ?_)
          go_simp
          first | refine ⟨_, fun _ => rfl, hK _ ?_⟩ | refine hK _ ?_
          clear hK K
          refine mix_pur2 rfl (fun K hK => ?_)
          go_simp
          first | refine ⟨_, fun _ => rfl, hK _ ?_⟩ | refine hK _ ?_
          clear hK K
          refine mix_pur2 rfl (fun K hK => ?_)
          go_simp
          first | refine ⟨_, fun _ => rfl, hK _ ?_⟩ | refine hK _ ?_
          clear hK K
          refine mix_pur2 rfl (fun K hK => ?_)
          go_simp
          first | refine ⟨_, fun _ => rfl, hK _ ?_⟩ | refine hK _ ?_
          clear hK K
          refine mix_pur2 rfl (fun K hK => ?_)
          go_simp
          first | refine ⟨_, fun _ => rfl, hK _ ?_⟩ | refine hK _ ?_
          clear hK K
          refine mix_eff2 rfl true rfl (fun K hK => ?_)
          have hI := hM3.call (hq4.below _)
          have y0 := hI.cell 6
          have y1 := hI.free 6
          go_simp
          refine hK _ _ trivial ?_
          clear hK K y0 y1
          refine mix_done2 ?_
          have hM4 := hM3.call (hq4.below _)
          obtain ⟨mx, hmx⟩ : ∃ m, m = (if g1 + p.wet < p.bears then g1 + p.wet else p.bears) := ⟨_, rfl⟩
          rw [← hmx]
          have HMX := Lib.hid hmx
          clear hmx
          go_wp2_with fail
          go_ret2
          rw [HDG.out, HDA.out, HSS.out, bh, bs]
          refine ⟨by rw [HU6.out]; rfl, ?_, (hK3.trans (Keep.qt hq4)).trans (Keep.setCell _ ⟨mb, 6, none⟩ _ rfl)⟩
          have hmin : min p.bears (g1 + p.wet) = mx := by have := HMX.out; split at this <;> omega
          simpa [if_neg (Int.not_lt.2 ha0), hmin] using hM4.set 6 (.int .i64 mx)
        | false =>
          go_wp2_with fail
          refine wp_region_mix2 (.pur 0 (.pur 1 (.pur 2 (.pur 3 (.pur 4 (.one 5 (.pur 6 (.pur 7 (.pur 8 (.pur 9 (.one 10 (.pur 11 (.pur 12 (.pur 13 (.pur 14 (.one 15 (.pur 16 (.pur 17 (.pur 18 (.pur 19 (.pur 20 (.act 21 .fin)))))))))))))))))))))) 21 (Blk mb #[.int .i64 p.grass, .int .i64 p.bears, .int .i64 p.dry, .int .i64 p.wet, .int .i64 p.stub, .int .i64 p.sleep, .int .i64 g1, .int .i64 a] 166) (fun _ => True) (by kernel_rfl) (by kernel_rfl) rfl (by kernel_rfl) (Blk.call hM3 (Qt.below ((Qt.refl w3).drewN 1) _)) (fun w4 hq4 _ => ?_)
          refine mix_pur2 rfl (fun K hK => ?_)
          go_simp
          first | refine ⟨_, fun _ => rfl, hK _ ?_⟩ | refine hK _ ?_
          clear hK K
          refine mix_pur2 rfl (fun K hK => ?_)
          go_simp
          first | refine ⟨_, fun _ => rfl, hK _ ?_⟩ | refine hK _ ?_
          clear hK K
          refine mix_pur2 rfl (fun K hK => ?_)
          go_simp
          first | refine ⟨_, fun _ => rfl, hK _ ?_⟩ | refine hK _ ?_
          clear hK K
          refine mix_pur2 rfl (fun K hK => ?_)
          go_simp
          first | refine ⟨_, fun _ => rfl, hK _ ?_⟩ | refine hK _ ?_
          clear hK K
          refine mix_pur2 rfl (fun K hK => ?_)
          go_simp
          first | refine ⟨_, fun _ => rfl, hK _ ?_⟩ | refine hK _ ?_
          clear hK K
          refine mix_load2 rfl rfl rfl (.int .i64 p.bears) (fun w' h => by have h : (Blk mb #[.int .i64 p.grass, .int .i64 p.bears, .int .i64 p.dry, .int .i64 p.wet, .int .i64 p.stub, .int .i64 p.sleep, .int .i64 g1, .int .i64 a] 166) w' := h; have h0 := h.cell 1; go_simp) rfl ?_
          refine mix_pur2 rfl (fun K hK => ?_)
          go_simp
          first | refine ⟨_, fun _ => rfl, hK _ ?_⟩ | refine hK _ ?_
          clear hK K
          refine mix_pur2 rfl (fun K hK => ?_)
          go_simp
          first | refine ⟨_, fun _ => rfl, hK _ ?_⟩ | refine hK _ ?_
          clear hK K
          refine mix_pur2 rfl (fun K hK => ?_)
          go_simp
          first | refine ⟨_, fun _ => rfl, hK _ ?_⟩ | refine hK _ ?_
          clear hK K
          refine mix_pur2 rfl (fun K hK => ?_)
          go_simp
          first | refine ⟨_, fun _ => rfl, hK _ ?_⟩ | refine hK _ ?_
          clear hK K
          refine mix_load2 rfl rfl rfl (.int .i64 g1) (fun w' h => by have h : (Blk mb #[.int .i64 p.grass, .int .i64 p.bears, .int .i64 p.dry, .int .i64 p.wet, .int .i64 p.stub, .int .i64 p.sleep, .int .i64 g1, .int .i64 a] 166) w' := h; have h0 := h.cell 6; go_simp) rfl ?_
          refine mix_pur2 rfl (fun K hK => ?_)
          go_simp
          first | refine ⟨_, fun _ => rfl, hK _ ?_⟩ | refine hK _ ?_
          clear hK K
          refine mix_pur2 rfl (fun K hK => ?_)
          go_simp
          first | refine ⟨_, fun _ => rfl, hK _ ?_⟩ | refine hK _ ?_
          clear hK K
          refine mix_pur2 rfl (fun K hK => ?_)
          go_simp
          first | refine ⟨_, fun _ => rfl, hK _ ?_⟩ | refine hK _ ?_
          clear hK K
          refine mix_pur2 rfl (fun K hK => ?_)
          go_simp
          first | refine ⟨_, fun _ => rfl, hK _ ?_⟩ | refine hK _ ?_
          clear hK K
          refine mix_load2 rfl rfl rfl (.int .i64 p.dry) (fun w' h => by have h : (Blk mb #[.int .i64 p.grass, .int .i64 p.bears, .int .i64 p.dry, .int .i64 p.wet, .int .i64 p.stub, .int .i64 p.sleep, .int .i64 g1, .int .i64 a] 166) w' := h; have h0 := h.cell 2; go_simp) rfl ?_
          refine mix_pur2 rfl (fun K hK => ?_)
          go_simp
          first | refine ⟨_, fun _ => rfl, hK _ ?_⟩ | refine hK _ ?_
          clear hK K
          refine mix_pur2 rfl (fun K hK => ?_)
          go_simp
          first | refine ⟨_, fun _ => rfl, hK _ ?_⟩ | refine hK _ ?_
          clear hK K
          refine mix_pur2 rfl (fun K hK => ?_)
          go_simp
          first | refine ⟨_, fun _ => rfl, hK _ ?_⟩ | refine hK _ ?_
          clear hK K
          refine mix_pur2 rfl (fun K hK => ?_)
          go_simp
          first | refine ⟨_, fun _ => rfl, hK _ ?_⟩ | refine hK _ ?_
          clear hK K
          refine mix_pur2 rfl (fun K hK => ?_)
          go_simp
          first | refine ⟨_, fun _ => rfl, hK _ ?_⟩ | refine hK _ ?_
          clear hK K
          refine mix_eff2 rfl true rfl (fun K hK => ?_)
          have hI := hM3.call (hq4.below _)
          have y0 := hI.cell 6
          have y1 := hI.free 6
          go_simp
          refine hK _ _ trivial ?_
          clear hK K y0 y1
          refine mix_done2 ?_
          have hM4 := hM3.call (hq4.below _)
          obtain ⟨mx, hmx⟩ : ∃ m, m = (if g1 + p.dry < p.bears then g1 + p.dry else p.bears) := ⟨_, rfl⟩
          rw [← hmx]
          have HMX := Lib.hid hmx
          clear hmx
          go_wp2_with fail
          go_ret2
          rw [HDG.out, HDA.out, HSS.out, bh, bs]
          refine ⟨by rw [HU6.out]; rfl, ?_, (hK3.trans (Keep.qt hq4)).trans (Keep.setCell _ ⟨mb, 6, none⟩ _ rfl)⟩
          have hmin : min p.bears (g1 + p.dry) = mx := by have := HMX.out; split at this <;> omega
          simpa [if_neg (Int.not_lt.2 ha0), hmin] using hM4.set 6 (.int .i64 mx)
  · have bh : decide (n > 0) = false := decide_eq_false hh0
    go_wp2_with fail
    refine wp_region_mix2 (.pur 0 (.pur 1 (.pur 2 (.pur 3 (.pur 4 (.pur 5 (.pur 6 (.pur 7 (.pur 8 (.pur 9 (.pur 10 (.pur 11 (.pur 12 (.pur 13 (.pur 14 (.pur 15 .fin)))))))))))))))) 99 (Blk mb #[.int .i64 p.grass, .int .i64 p.bears, .int .i64 p.dry, .int .i64 p.wet, .int .i64 p.stub, .int .i64 p.sleep, .int .i64 g1, .int .i64 a] 166) (fun _ => True) (by kernel_rfl) (by kernel_rfl) rfl (by kernel_rfl) (Blk.call hM2 (Qt.below ((Qt.refl w2).drewN 1) _)) (fun w3 hq3 _ => ?_)
    refine mix_pur2 rfl (fun K hK => ?_)
    go_simp
    first | refine ⟨_, fun _ => rfl, hK _ ?_⟩ | refine hK _ ?_
    clear hK K
    refine mix_pur2 rfl (fun K hK => ?_)
    go_simp
    first | refine ⟨_, fun _ => rfl, hK _ ?_⟩ | refine hK _ ?_
    clear hK K
    refine mix_pur2 rfl (fun K hK => ?_)
    go_simp
    first | refine ⟨_, fun _ => rfl, hK _ ?_⟩ | refine hK _ ?_
    clear hK K
    refine mix_pur2 rfl (fun K hK => ?_)
    go_simp
    first | refine ⟨_, fun _ => rfl, hK _ ?_⟩ | refine hK _ ?_
    clear hK K
    refine mix_pur2 rfl (fun K hK => ?_)
    go_simp
    first | refine ⟨_, fun _ => rfl, hK _ ?_⟩ | refine hK _ ?_
    clear hK K
    refine mix_pur2 rfl (fun K hK => ?_)
    go_simp
    first | refine ⟨_, fun _ => rfl, hK _ ?_⟩ | refine hK _ ?_
    clear hK K
    refine mix_pur2 rfl (fun K hK => ?_)
    go_simp
    first | refine ⟨_, fun _ => rfl, hK _ ?_⟩ | refine hK _ ?_
    clear hK K
    refine mix_pur2 rfl (fun K hK => ?_)
    go_simp
    first | refine ⟨_, fun _ => rfl, hK _ ?_⟩ | refine hK _ ?_
    clear hK K
    refine mix_pur2 rfl (fun K hK => ?_)
    go_simp
    first | refine ⟨_, fun _ => rfl, hK _ ?_⟩ | refine hK _ ?_
    clear hK K
    refine mix_pur2 rfl (fun K hK => ?_)
    go_simp
    first | refine ⟨_, fun _ => rfl, hK _ ?_⟩ | refine hK _ ?_
    clear hK K
    refine mix_pur2 rfl (fun K hK => ?_)
    go_simp
    first | refine ⟨_, fun _ => rfl, hK _ ?_⟩ | refine hK _ ?_
    clear hK K
    refine mix_pur2 rfl (fun K hK => ?_)
    go_simp
    first | refine ⟨_, fun _ => rfl, hK _ ?_⟩ | refine hK _ ?_
    clear hK K
    refine mix_pur2 rfl (fun K hK => ?_)
    go_simp
    first | refine ⟨_, fun _ => rfl, hK _ ?_⟩ | refine hK _ ?_
    clear hK K
    refine mix_pur2 rfl (fun K hK => ?_)
    go_simp
    first | refine ⟨_, fun _ => rfl, hK _ ?_⟩ | refine hK _ ?_
    clear hK K
    refine mix_pur2 rfl (fun K hK => ?_)
    go_simp
    first | refine ⟨_, fun _ => rfl, hK _ ?_⟩ | refine hK _ ?_
    clear hK K
    refine mix_pur2 rfl (fun K hK => ?_)
    go_simp
    first | refine ⟨_, fun _ => rfl, hK _ ?_⟩ | refine hK _ ?_
    clear hK K
    refine mix_done2 ?_
    have hM3 := hM2.call (hq3.below _)
    have hK3 := hK2.trans (Keep.qt hq3)
    have hs3 := hM3.lt
    clear hM2 hK2 hq3
    by_cases ha0 : 0 < a
    · have ba : decide (a > 0) = true := decide_eq_true ha0
      have c7 := hM3.cell 7
      have f7 := hM3.free 7
      go_wp2_with fail
      go_ret2
      rw [HDG.out, HDA.out, HSS.out, bh]
      refine ⟨by rw [HU6.out]; rfl, ?_, hK3.trans (Keep.setCell _ ⟨mb, 7, none⟩ _ rfl)⟩
      simpa [ha0] using hM3.set 7 (.int .i64 (a - 1))
    · have ba : decide (a > 0) = false := decide_eq_false ha0
      have c7 := hM3.cell 7
      have bw1 : IntKind.i64.wrap (g1 + p.wet) = g1 + p.wet := IntWalk.i64_in _ (by omega)
      have bw2 : IntKind.i64.wrap (g1 + p.dry) = g1 + p.dry := IntWalk.i64_in _ (by omega)
      cases wet with
      | true =>
        go_wp2_with fail
        refine wp_region_mix2 (.pur 0 (.pur 1 (.pur 2 (.pur 3 (.pur 4 (.one 5 (.pur 6 (.pur 7 (.pur 8 (.pur 9 (.one 10 (.pur 11 (.pur 12 (.pur 13 (.pur 14 (.one 15 (.pur 16 (.pur 17 (.pur 18 (.pur 19 (.pur 20 (.act 21 .fin)))))))))))))))))))))) 21 (Blk mb #[.int .i64 p.grass, .int .i64 p.bears, .int .i64 p.dry, .int .i64 p.wet, .int .i64 p.stub, .int .i64 p.sleep, .int .i64 g1, .int .i64 a] 166) (fun _ => True) (by kernel_rfl) (by kernel_rfl) rfl (by kernel_rfl) (Blk.call hM3 (Qt.below ((Qt.refl w3).drewN 1) _)) (fun w4 hq4 _ => ?_)
        refine mix_pur2 rfl (fun K hK => ?_)
        go_simp
        first | refine ⟨_, fun _ => rfl, hK _ ?_⟩ | refine hK _ ?_
        clear hK K
        refine mix_pur2 rfl (fun K hK => ?_)
        go_simp
        first | refine ⟨_, fun _ => rfl, hK _ ?_⟩ | refine hK _ ?_
        clear hK K
        refine mix_pur2 rfl (fun K hK => ?_)
        go_simp
        first | refine ⟨_, fun _ => rfl, hK _ ?_⟩ | refine hK _ ?_
        clear hK K
        refine mix_pur2 rfl (fun K hK => ?_)
        go_simp
        first | refine ⟨_, fun _ => rfl, hK _ ?_⟩ | refine hK _ ?_
        clear hK K
        refine mix_pur2 rfl (fun K hK => ?_)
        go_simp
        first | refine ⟨_, fun _ => rfl, hK _ ?_⟩ | refine hK _ ?_
        clear hK K
        refine mix_load2 rfl rfl rfl (.int .i64 p.bears) (fun w' h => by have h : (Blk mb #[.int .i64 p.grass, .int .i64 p.bears, .int .i64 p.dry, .int .i64 p.wet, .int .i64 p.stub, .int .i64 p.sleep, .int .i64 g1, .int .i64 a] 166) w' := h; have h0 := h.cell 1; go_simp) rfl ?_
        refine mix_pur2 rfl (fun K hK => ?_)
        go_simp
        first | refine ⟨_, fun _ => rfl, hK _ ?_⟩ | refine hK _ ?_
        clear hK K
        refine mix_pur2 rfl (fun K hK => ?_)
        go_simp
        first | refine ⟨_, fun _ => rfl, hK _ ?_⟩ | refine hK _ ?_
        clear hK K
        refine mix_pur2 rfl (fun K hK => ?_)
        go_simp
        first | refine ⟨_, fun _ => rfl, hK _ ?_⟩ | refine hK _ ?_
        clear hK K
        refine mix_pur2 rfl (fun K hK => ?_)
        go_simp
        first | refine ⟨_, fun _ => rfl, hK _ ?_⟩ | refine hK _ ?_
        clear hK K
        refine mix_load2 rfl rfl rfl (.int .i64 g1) (fun w' h => by have h : (Blk mb #[.int .i64 p.grass, .int .i64 p.bears, .int .i64 p.dry, .int .i64 p.wet, .int .i64 p.stub, .int .i64 p.sleep, .int .i64 g1, .int .i64 a] 166) w' := h; have h0 := h.cell 6; go_simp) rfl ?_
        refine mix_pur2 rfl (fun K hK => ?_)
        go_simp
        first | refine ⟨_, fun _ => rfl, hK _ ?_⟩ | refine hK _ ?_
        clear hK K
        refine mix_pur2 rfl (fun K hK => ?_)
        go_simp
        first | refine ⟨_, fun _ => rfl, hK _ ?_⟩ | refine hK _ ?_
        clear hK K
        refine mix_pur2 rfl (fun K hK => ?_)
        go_simp
        first | refine ⟨_, fun _ => rfl, hK _ ?_⟩ | refine hK _ ?_
        clear hK K
        refine mix_pur2 rfl (fun K hK => ?_)
        go_simp
        first | refine ⟨_, fun _ => rfl, hK _ ?_⟩ | refine hK _ ?_
        clear hK K
        refine mix_load2 rfl rfl rfl (.int .i64 p.wet) (fun w' h => by have h : (Blk mb #[.int .i64 p.grass, .int .i64 p.bears, .int .i64 p.dry, .int .i64 p.wet, .int .i64 p.stub, .int .i64 p.sleep, .int .i64 g1, .int .i64 a] 166) w' := h; have h0 := h.cell 3; go_simp) rfl ?_
        refine mix_pur2 rfl (fun K hK => ?_)
        go_simp
        first | refine ⟨_, fun _ => rfl, hK _ ?_⟩ | refine hK _ ?_
        clear hK K
        refine mix_pur2 rfl (fun K hK => ?_)
        go_simp
        first | refine ⟨_, fun _ => rfl, hK _ ?_⟩ | refine hK _ ?_
        clear hK K
        refine mix_pur2 rfl (fun K hK => ?_)
        go_simp
        first | refine ⟨_, fun _ => rfl, hK _ ?_⟩ | refine hK _ ?_
        clear hK K
        refine mix_pur2 rfl (fun K hK => ?_)
        go_simp
        first | refine ⟨_, fun _ => rfl, hK _ ?_⟩ | refine hK _ ?_
        clear hK K
        refine mix_pur2 rfl (fun K hK => ?_)
        go_simp
        first | refine ⟨_, fun _ => rfl, hK _ ?_⟩ | refine hK _ ?_
        clear hK K
        refine mix_eff2 rfl true rfl (fun K hK => ?_)
        have hI := hM3.call (hq4.below _)
        have y0 := hI.cell 6
        have y1 := hI.free 6
        go_simp
        refine hK _ _ trivial ?_
        clear hK K y0 y1
        refine mix_done2 ?_
        have hM4 := hM3.call (hq4.below _)
        obtain ⟨mx, hmx⟩ : ∃ m, m = (if g1 + p.wet < p.bears then g1 + p.wet else p.bears) := ⟨_, rfl⟩
        rw [← hmx]
        have HMX := Lib.hid hmx
        clear hmx
        go_wp2_with fail
        go_ret2
        rw [HDG.out, HDA.out, HSS.out, bh]
        refine ⟨by rw [HU6.out]; rfl, ?_, (hK3.trans (Keep.qt hq4)).trans (Keep.setCell _ ⟨mb, 6, none⟩ _ rfl)⟩
        have hmin : min p.bears (g1 + p.wet) = mx := by have := HMX.out; split at this <;> omega
        simpa [if_neg (Int.not_lt.2 ha0), hmin] using hM4.set 6 (.int .i64 mx)
      | false =>
        go_wp2_with fail
        refine wp_region_mix2 (.pur 0 (.pur 1 (.pur 2 (.pur 3 (.pur 4 (.one 5 (.pur 6 (.pur 7 (.pur 8 (.pur 9 (.one 10 (.pur 11 (.pur 12 (.pur 13 (.pur 14 (.one 15 (.pur 16 (.pur 17 (.pur 18 (.pur 19 (.pur 20 (.act 21 .fin)))))))))))))))))))))) 21 (Blk mb #[.int .i64 p.grass, .int .i64 p.bears, .int .i64 p.dry, .int .i64 p.wet, .int .i64 p.stub, .int .i64 p.sleep, .int .i64 g1, .int .i64 a] 166) (fun _ => True) (by kernel_rfl) (by kernel_rfl) rfl (by kernel_rfl) (Blk.call hM3 (Qt.below ((Qt.refl w3).drewN 1) _)) (fun w4 hq4 _ => ?_)
        refine mix_pur2 rfl (fun K hK => ?_)
        go_simp
        first | refine ⟨_, fun _ => rfl, hK _ ?_⟩ | refine hK _ ?_
        clear hK K
        refine mix_pur2 rfl (fun K hK => ?_)
        go_simp
        first | refine ⟨_, fun _ => rfl, hK _ ?_⟩ | refine hK _ ?_
        clear hK K
        refine mix_pur2 rfl (fun K hK => ?_)
        go_simp
        first | refine ⟨_, fun _ => rfl, hK _ ?_⟩ | refine hK _ ?_
        clear hK K
        refine mix_pur2 rfl (fun K hK => ?_)
        go_simp
        first | refine ⟨_, fun _ => rfl, hK _ ?_⟩ | refine hK _ ?_
        clear hK K
        refine mix_pur2 rfl (fun K hK => ?_)
        go_simp
        first | refine ⟨_, fun _ => rfl, hK _ ?_⟩ | refine hK _ ?_
        clear hK K
        refine mix_load2 rfl rfl rfl (.int .i64 p.bears) (fun w' h => by have h : (Blk mb #[.int .i64 p.grass, .int .i64 p.bears, .int .i64 p.dry, .int .i64 p.wet, .int .i64 p.stub, .int .i64 p.sleep, .int .i64 g1, .int .i64 a] 166) w' := h; have h0 := h.cell 1; go_simp) rfl ?_
        refine mix_pur2 rfl (fun K hK => ?_)
        go_simp
        first | refine ⟨_, fun _ => rfl, hK _ ?_⟩ | refine hK _ ?_
        clear hK K
        refine mix_pur2 rfl (fun K hK => ?_)
        go_simp
        first | refine ⟨_, fun _ => rfl, hK _ ?_⟩ | refine hK _ ?_
        clear hK K
        refine mix_pur2 rfl (fun K hK => ?_)
        go_simp
        first | refine ⟨_, fun _ => rfl, hK _ ?_⟩ | refine hK _ ?_
        clear hK K
        refine mix_pur2 rfl (fun K hK => ?_)
        go_simp
        first | refine ⟨_, fun _ => rfl, hK _ ?_⟩ | refine hK _ ?_
        clear hK K
        refine mix_load2 rfl rfl rfl (.int .i64 g1) (fun w' h => by have h : (Blk mb #[.int .i64 p.grass, .int .i64 p.bears, .int .i64 p.dry, .int .i64 p.wet, .int .i64 p.stub, .int .i64 p.sleep, .int .i64 g1, .int .i64 a] 166) w' := h; have h0 := h.cell 6; go_simp) rfl ?_
        refine mix_pur2 rfl (fun K hK => ?_)
        go_simp
        first | refine ⟨_, fun _ => rfl, hK _ ?_⟩ | refine hK _ ?_
        clear hK K
        refine mix_pur2 rfl (fun K hK => ?_)
        go_simp
        first | refine ⟨_, fun _ => rfl, hK _ ?_⟩ | refine hK _ ?_
        clear hK K
        refine mix_pur2 rfl (fun K hK => ?_)
        go_simp
        first | refine ⟨_, fun _ => rfl, hK _ ?_⟩ | refine hK _ ?_
        clear hK K
        refine mix_pur2 rfl (fun K hK => ?_)
        go_simp
        first | refine ⟨_, fun _ => rfl, hK _ ?_⟩ | refine hK _ ?_
        clear hK K
        refine mix_load2 rfl rfl rfl (.int .i64 p.dry) (fun w' h => by have h : (Blk mb #[.int .i64 p.grass, .int .i64 p.bears, .int .i64 p.dry, .int .i64 p.wet, .int .i64 p.stub, .int .i64 p.sleep, .int .i64 g1, .int .i64 a] 166) w' := h; have h0 := h.cell 2; go_simp) rfl ?_
        refine mix_pur2 rfl (fun K hK => ?_)
        go_simp
        first | refine ⟨_, fun _ => rfl, hK _ ?_⟩ | refine hK _ ?_
        clear hK K
        refine mix_pur2 rfl (fun K hK => ?_)
        go_simp
        first | refine ⟨_, fun _ => rfl, hK _ ?_⟩ | refine hK _ ?_
        clear hK K
        refine mix_pur2 rfl (fun K hK => ?_)
        go_simp
        first | refine ⟨_, fun _ => rfl, hK _ ?_⟩ | refine hK _ ?_
        clear hK K
        refine mix_pur2 rfl (fun K hK => ?_)
        go_simp
        first | refine ⟨_, fun _ => rfl, hK _ ?_⟩ | refine hK _ ?_
        clear hK K
        refine mix_pur2 rfl (fun K hK => ?_)
        go_simp
        first | refine ⟨_, fun _ => rfl, hK _ ?_⟩ | refine hK _ ?_
        clear hK K
        refine mix_eff2 rfl true rfl (fun K hK => ?_)
        have hI := hM3.call (hq4.below _)
        have y0 := hI.cell 6
        have y1 := hI.free 6
        go_simp
        refine hK _ _ trivial ?_
        clear hK K y0 y1
        refine mix_done2 ?_
        have hM4 := hM3.call (hq4.below _)
        obtain ⟨mx, hmx⟩ : ∃ m, m = (if g1 + p.dry < p.bears then g1 + p.dry else p.bears) := ⟨_, rfl⟩
        rw [← hmx]
        have HMX := Lib.hid hmx
        clear hmx
        go_wp2_with fail
        go_ret2
        rw [HDG.out, HDA.out, HSS.out, bh]
        refine ⟨by rw [HU6.out]; rfl, ?_, (hK3.trans (Keep.qt hq4)).trans (Keep.setCell _ ⟨mb, 6, none⟩ _ rfl)⟩
        have hmin : min p.bears (g1 + p.dry) = mx := by have := HMX.out; split at this <;> omega
        simpa [if_neg (Int.not_lt.2 ha0), hmin] using hM4.set 6 (.int .i64 mx)

end Go.Proofs.Ythchpoabncdicaa

namespace Go.Proofs.Ythchpoabncdicaa
open Go.RowKit

theorem gbetween_t {n lo hi : Int} (h : lo ≤ n ∧ n ≤ hi) (w : World) :
    Calls Try.prog 136 #[.int .i64 n, .int .i64 lo, .int .i64 hi] w fun e w' => e = .returned (.bool true) ∧ w = w' := by
  refine (gbetween_c n lo hi w).mono ?_
  rintro e w' ⟨rfl, rfl⟩
  exact ⟨ret_bool (by simp [btw]; omega), rfl⟩

set_option maxRecDepth 100000 in
set_option maxHeartbeats 1000000 in
theorem gcheck_c {p : Pas} (hp : p.Ok) (w : World) : Calls Try.prog 134 #[(.agg #[.int .i64 p.grass, .int .i64 p.bears, .int .i64 p.dry, .int .i64 p.wet, .int .i64 p.stub, .int .i64 p.sleep])] w fun e w' => e = .returned (.int .i64 0) ∧ Below w.heap.size w w' := by
  have h1 := hp.b
  have h2 := hp.g
  have h3 := hp.d
  have h4 := hp.w
  have h5 := hp.st
  have h6 := hp.sl
  go_enter Try.func134, Try.ntmps134
  go_wp2_with (go_at_call 136; refine (gbetween_t (by omega) _).mono ?_; rintro e w' ⟨rfl, rfl⟩)
  go_ret
  exact ⟨rfl, (Below.refl _ w).alloc (Nat.le_refl _) _⟩

set_option maxRecDepth 100000 in
set_option maxHeartbeats 1000000 in
theorem gsky_c {s : Sky} (hs : s.Ok) (w : World) : Calls Try.prog 135 #[(.agg #[.int .i64 s.days, .int .i64 s.drought, .int .i64 s.flood])] w fun e w' => e = .returned (.int .i64 0) ∧ Below w.heap.size w w' := by
  have h1 := hs.d
  have h2 := hs.r
  have h3 := hs.f
  go_enter Try.func135, Try.ntmps135
  go_wp2_with (go_at_call 136; refine (gbetween_t (by omega) _).mono ?_; rintro e w' ⟨rfl, rfl⟩)
  go_ret
  exact ⟨rfl, (Below.refl _ w).alloc (Nat.le_refl _) _⟩

theorem counted_c {n lo hi : Int} (h : lo ≤ n ∧ n ≤ hi) (w : World) :
    Calls Try.prog 151 #[.int .i64 n, .int .i64 lo, .int .i64 hi] w fun e w' => e = .returned (.int .i64 0) ∧ w = w' := by
  have h1 : decide (n < lo) = false := decide_eq_false (by omega)
  have h2 : decide (n > hi) = false := decide_eq_false (by omega)
  go_enter Try.func151, Try.ntmps151
  go_wp2
  go_ret
  exact ⟨rfl, rfl⟩

set_option maxRecDepth 100000 in
set_option maxHeartbeats 1000000 in
theorem hungry_c {A : Nat → Prop} {w : World} {v : Value} {h : Int} {n : Nat} (hv : Ints A w v (List.replicate n h)) (hh : 0 ≤ h ∧ h ≤ 40) :
    Calls Try.prog 146 #[v, .int .i64 (n : Int)] w fun e w' => e = .returned (.int .i64 0) ∧ Qt w w' := by
  have hl := hv.len
  have hsh := hv.shape
  rw [List.length_replicate] at hl hsh
  obtain ⟨ao, cp, rfl, _, _⟩ := hsh
  go_enter Try.func146, Try.ntmps146
  go_wp2_with (go_at_call 151; refine (counted_c (by omega) _).mono ?_; rintro e w' ⟨rfl, rfl⟩)
  go_loopw [18] (fun i wr => ∃ k : Nat, k ≤ n ∧ i = .int .i64 k ∧ Qt w wr) (fun i _ => n - (intOf i).toNat)
  case atStart => exact ⟨0, Nat.zero_le _, rfl, Qt.refl w⟩
  case round =>
    obtain ⟨k, hk, rfl, hq⟩ := hrel
    by_cases hkm : k < n
    · have hvr := hv.qt hq
      have hk2 : k < (List.replicate n h).length := by rw [List.length_replicate]; exact hkm
      obtain ⟨b, off, rfl, -, -, hc⟩ := hvr.addr (Nat.lt_of_le_of_lt (Nat.zero_le k) hk2)
      have c0 := hc k hk2
      rw [List.getElem_replicate] at c0
      clear hc hk2
      go_wp2_with (go_at_call 136; refine (gbetween_t (by omega) _).mono ?_; rintro e w' ⟨rfl, rfl⟩)
      go_roundw
      case rel => exact ⟨k + 1, by omega, by go_num, hq⟩
      case measure => simp [intOf]; omega
    · obtain rfl : k = n := by omega
      go_wp2
      go_ret
      exact ⟨rfl, hq⟩

set_option maxRecDepth 100000 in
set_option maxHeartbeats 1000000 in
/-- The first error of none. -/
theorem gfirst_c {A : Nat → Prop} {w : World} {v : Value} (hv : Ints A w v [0, 0]) : Calls Try.prog 133 #[v] w fun e w' => e = .returned (.int .i64 0) ∧ Qt w w' := by
  obtain ⟨ao, cp, rfl, _, _⟩ := hv.shape
  go_enter Try.func133, Try.ntmps133
  go_wp2
  go_loopw [7] (fun i wr => ∃ k : Nat, k ≤ 2 ∧ i = .int .i64 k ∧ Qt w wr) (fun i _ => 2 - (intOf i).toNat)
  case atStart => exact ⟨0, Nat.zero_le _, rfl, Qt.refl w⟩
  case round =>
    obtain ⟨k, hk, rfl, hq⟩ := hrel
    by_cases hkm : k < 2
    · have hvr := hv.qt hq
      obtain ⟨b, off, rfl, -, -, hc⟩ := hvr.addr (by simp)
      have c0 := hc k (by simpa using hkm)
      have e0 : ([0, 0] : List Int)[k]'(by simpa using hkm) = 0 := by
        have : k = 0 ∨ k = 1 := by omega
        rcases this with rfl | rfl <;> rfl
      rw [e0] at c0
      clear hc
      go_wp2
      go_roundw
      case rel => exact ⟨k + 1, by omega, by go_num, hq⟩
      case measure => simp [intOf]; omega
    · obtain rfl : k = 2 := by omega
      go_wp2
      go_ret
      exact ⟨rfl, hq⟩

/-- A pasture begins to work. -/
theorem begin_c {p : Pas} (w : World) : Calls Try.prog 144 #[(.agg #[.int .i64 p.grass, .int .i64 p.bears, .int .i64 p.dry, .int .i64 p.wet, .int .i64 p.stub, .int .i64 p.sleep])] w fun e w' => ∃ mb, e = .returned (.pointer (some ⟨mb, 0, none⟩)) ∧ w.heap.size ≤ mb ∧ Blk mb #[.int .i64 p.grass, .int .i64 p.bears, .int .i64 p.dry, .int .i64 p.wet, .int .i64 p.stub, .int .i64 p.sleep, .int .i64 p.grass, .int .i64 0] 166 w' ∧ Below w.heap.size w w' := by
  go_enter Try.func144, Try.ntmps144
  go_wp2
  go_ret
  exact ⟨_, rfl, by simp, blk_at (by simp) _ _, ((Below.refl _ w).alloc (Nat.le_refl _) _).alloc (by simp) _⟩

end Go.Proofs.Ythchpoabncdicaa

namespace Go.Proofs.Ythchpoabncdicaa
open Go.RowKit

set_option maxRecDepth 100000 in
set_option maxHeartbeats 2000000 in
theorem next_n {s : Sky} {l0 l : Nat} {r : Int} (hl : l0 ≠ l) (w : World) :
    Calls Try.prog 149 #[.agg #[.int .u8 l0, .int .i64 r], (.agg #[.int .i64 s.days, .int .i64 s.drought, .int .i64 s.flood]), .int .u8 l] w fun e w' => e = .returned (.tuple #[.agg #[.int .u8 l, .int .i64 1], .bool true]) ∧ Below w.heap.size w w' := by
  have b1 : ((l0 : Int) != (l : Int)) = true := by simp; omega
  have hX : Blk w.heap.size #[.int .u8 l0, .int .i64 r] 159 (((w.alloc (.cells #[.int .u8 l0, .int .i64 r] 159)).alloc (.cells #[.int .i64 s.days, .int .i64 s.drought, .int .i64 s.flood] 67)).alloc (.cells #[.int .u8 0, .int .i64 0] 159)) := ((blk_at rfl _ _).alloc _).alloc _
  have hS : Blk (w.heap.size + 1) #[.int .i64 s.days, .int .i64 s.drought, .int .i64 s.flood] 67 (((w.alloc (.cells #[.int .u8 l0, .int .i64 r] 159)).alloc (.cells #[.int .i64 s.days, .int .i64 s.drought, .int .i64 s.flood] 67)).alloc (.cells #[.int .u8 0, .int .i64 0] 159)) := (blk_at (by simp) _ _).alloc _
  have hR : Blk (w.heap.size + 2) #[.int .u8 0, .int .i64 0] 159 (((w.alloc (.cells #[.int .u8 l0, .int .i64 r] 159)).alloc (.cells #[.int .i64 s.days, .int .i64 s.drought, .int .i64 s.flood] 67)).alloc (.cells #[.int .u8 0, .int .i64 0] 159)) := blk_at (by simp) _ _
  have hB : Below w.heap.size w (((w.alloc (.cells #[.int .u8 l0, .int .i64 r] 159)).alloc (.cells #[.int .i64 s.days, .int .i64 s.drought, .int .i64 s.flood] 67)).alloc (.cells #[.int .u8 0, .int .i64 0] 159)) := (((Below.refl _ w).alloc (Nat.le_refl _) _).alloc (by simp) _).alloc (by simp; omega) _

  have y0 := hX.cell 0
  have y1 := hR.cell 0
  have y2 := hR.cell 1
  have y3 := hR.free 0
  have y4 := hR.free 1
  go_enter Try.func149, Try.ntmps149
  go_wp2
  have hR9 : Blk (w.heap.size + 1 + 1) #[.int .u8 l, .int .i64 1] 159 (((w.alloc (.cells #[.int .u8 l0, .int .i64 r] 159)).alloc (.cells #[.int .i64 s.days, .int .i64 s.drought, .int .i64 s.flood] 67)).alloc (.cells #[.int .u8 l, .int .i64 1] 159)) := blk_at (by simp) _ _
  have hB9 : Below w.heap.size w (((w.alloc (.cells #[.int .u8 l0, .int .i64 r] 159)).alloc (.cells #[.int .i64 s.days, .int .i64 s.drought, .int .i64 s.flood] 67)).alloc (.cells #[.int .u8 l, .int .i64 1] 159)) := (((Below.refl _ w).alloc (Nat.le_refl _) _).alloc (by simp) _).alloc (by simp; omega) _
  generalize (((w.alloc (.cells #[.int .u8 l0, .int .i64 r] 159)).alloc (.cells #[.int .i64 s.days, .int .i64 s.drought, .int .i64 s.flood] 67)).alloc (.cells #[.int .u8 l, .int .i64 1] 159)) = w9 at hR9 hB9 ⊢
  have d0 := hR9.cell 0
  have d1 := hR9.cell 1
  exact bodyPost_ret (v := .tuple #[.agg #[.int .u8 l, .int .i64 1], .bool true]) (by simp [results, Try.results149, go_sem, d0, d1]) rfl ⟨rfl, hB9⟩

set_option maxRecDepth 100000 in
set_option maxHeartbeats 2000000 in
theorem next_s {s : Sky} {l : Nat} {r : Int} (hr : 0 ≤ r ∧ r ≤ 100) (w : World) :
    Calls Try.prog 149 #[.agg #[.int .u8 l, .int .i64 r], (.agg #[.int .i64 s.days, .int .i64 s.drought, .int .i64 s.flood]), .int .u8 l] w fun e w' => e = .returned (.tuple #[.agg #[.int .u8 l, .int .i64 (r + 1)], .bool (decide (r < (if l = 119 then s.flood else s.drought)))]) ∧ Below w.heap.size w w' := by
  have b1 : ((l : Int) != (l : Int)) = false := by simp
  obtain ⟨w3, hw3⟩ : ∃ w3, w3 = (((w.alloc (.cells #[.int .u8 l, .int .i64 r] 159)).alloc (.cells #[.int .i64 s.days, .int .i64 s.drought, .int .i64 s.flood] 67)).alloc (.cells #[.int .u8 0, .int .i64 0] 159)) := ⟨_, rfl⟩
  have hX : Blk w.heap.size #[.int .u8 l, .int .i64 r] 159 (((w.alloc (.cells #[.int .u8 l, .int .i64 r] 159)).alloc (.cells #[.int .i64 s.days, .int .i64 s.drought, .int .i64 s.flood] 67)).alloc (.cells #[.int .u8 0, .int .i64 0] 159)) := ((blk_at rfl _ _).alloc _).alloc _
  have hS : Blk (w.heap.size + 1) #[.int .i64 s.days, .int .i64 s.drought, .int .i64 s.flood] 67 (((w.alloc (.cells #[.int .u8 l, .int .i64 r] 159)).alloc (.cells #[.int .i64 s.days, .int .i64 s.drought, .int .i64 s.flood] 67)).alloc (.cells #[.int .u8 0, .int .i64 0] 159)) := (blk_at (by simp) _ _).alloc _
  have hR : Blk (w.heap.size + 2) #[.int .u8 0, .int .i64 0] 159 (((w.alloc (.cells #[.int .u8 l, .int .i64 r] 159)).alloc (.cells #[.int .i64 s.days, .int .i64 s.drought, .int .i64 s.flood] 67)).alloc (.cells #[.int .u8 0, .int .i64 0] 159)) := blk_at (by simp) _ _
  have hB : Below w.heap.size w (((w.alloc (.cells #[.int .u8 l, .int .i64 r] 159)).alloc (.cells #[.int .i64 s.days, .int .i64 s.drought, .int .i64 s.flood] 67)).alloc (.cells #[.int .u8 0, .int .i64 0] 159)) := (((Below.refl _ w).alloc (Nat.le_refl _) _).alloc (by simp) _).alloc (by simp; omega) _

  rw [← hw3] at hX hS hR hB
  have y0 := hX.cell 0
  have y1 := hS.cell 1
  have y2 := hS.cell 2
  have bw : IntKind.i64.wrap (r + 1) = r + 1 := IntWalk.i64_in _ (by omega)
  by_cases hl : l = 119
  · have b2 : ((l : Int) == 119) = true := by simp; omega
    rw [if_pos hl]
    clear hl
    go_enter Try.func149, Try.ntmps149
    go_upto_region 6 with fail
    rw [← hw3]
    clear hw3
    refine wp_region_mix2 (.pur 0 (.pur 1 (.one 2 (.pur 3 (.pur 4 (.pur 5 (.pur 6 (.pur 7 (.pur 8 (.act 9 (.pur 10 .fin))))))))))) 9 (fun w' => Blk w.heap.size #[.int .u8 l, .int .i64 r] 159 w' ∧ Blk (w.heap.size + 2) #[.int .u8 0, .int .i64 0] 159 w') (Blk w.heap.size #[.int .u8 l, .int .i64 r] 159) (by kernel_rfl) (by kernel_rfl) rfl (by kernel_rfl) ⟨hX.call (((Qt.refl w3).drewN 1).below _), hR.call (((Qt.refl w3).drewN 1).below _)⟩ (fun wd hqd _ => ?_)
    refine mix_pur2 rfl (fun K hK => ?_)
    go_simp
    first | refine ⟨_, fun _ => rfl, hK _ ?_⟩ | refine hK _ ?_
    clear hK K
    refine mix_pur2 rfl (fun K hK => ?_)
    go_simp
    first | refine ⟨_, fun _ => rfl, hK _ ?_⟩ | refine hK _ ?_
    clear hK K
    refine mix_load2 rfl rfl rfl (.int .i64 r) (fun w' h => by have h : (fun w' => Blk w.heap.size #[.int .u8 l, .int .i64 r] 159 w' ∧ Blk (w.heap.size + 2) #[.int .u8 0, .int .i64 0] 159 w') w' := h; have h0 := h.1.cell 1; go_simp) rfl ?_
    refine mix_pur2 rfl (fun K hK => ?_)
    go_simp
    first | refine ⟨_, fun _ => rfl, hK _ ?_⟩ | refine hK _ ?_
    clear hK K
    refine mix_pur2 rfl (fun K hK => ?_)
    go_simp
    first | refine ⟨_, fun _ => rfl, hK _ ?_⟩ | refine hK _ ?_
    clear hK K
    refine mix_pur2 rfl (fun K hK => ?_)
    go_simp
    first | refine ⟨_, fun _ => rfl, hK _ ?_⟩ | refine hK _ ?_
    clear hK K
    refine mix_pload2 rfl rfl rfl (.int .i64 r) (fun w' h => by have h : (fun w' => Blk w.heap.size #[.int .u8 l, .int .i64 r] 159 w' ∧ Blk (w.heap.size + 2) #[.int .u8 0, .int .i64 0] 159 w') w' ∨ (Blk w.heap.size #[.int .u8 l, .int .i64 r] 159) w' := h; have h0 := (h.elim (fun h => h.1) id).cell 1; go_simp) rfl ?_
    refine mix_pur2 rfl (fun K hK => ?_)
    go_simp
    first | refine ⟨_, fun _ => rfl, hK _ ?_⟩ | refine hK _ ?_
    clear hK K
    refine mix_pur2 rfl (fun K hK => ?_)
    go_simp
    first | refine ⟨_, fun _ => rfl, hK _ ?_⟩ | refine hK _ ?_
    clear hK K
    refine mix_eff2 rfl true rfl (fun K hK => ?_)
    have y0 := (hR.call (hqd.below _)).cell 0
    have y1 := (hR.call (hqd.below _)).cell 1
    have y2 := (hR.call (hqd.below _)).free 0
    have y3 := (hR.call (hqd.below _)).free 1
    go_simp
    refine hK _ _ (((hX.call (hqd.below _)).other (a := ⟨w.heap.size + 2, 0, none⟩) (by simp) _).other (a := ⟨w.heap.size + 2, 1, none⟩) (by simp) _) ?_
    clear hK K
    refine mix_pur2 rfl (fun K hK => ?_)
    go_simp
    first | refine ⟨_, fun _ => rfl, hK _ ?_⟩ | refine hK _ ?_
    clear hK K
    refine mix_done2 ?_
    go_wp2
    have hR9 : Blk (w.heap.size + 2) #[.int .u8 l, .int .i64 (r + 1)] 159 ((wd.setCell ⟨w.heap.size + 2, 0, none⟩ (.int .u8 l)).setCell ⟨w.heap.size + 2, 1, none⟩ (.int .i64 (r + 1))) := by simpa using ((hR.call (hqd.below _)).set 0 (.int .u8 l)).set 1 (.int .i64 (r + 1))
    have hB9 : Below w.heap.size w ((wd.setCell ⟨w.heap.size + 2, 0, none⟩ (.int .u8 l)).setCell ⟨w.heap.size + 2, 1, none⟩ (.int .i64 (r + 1))) := ((hB.trans (hqd.below _)).setCell (by simp) _).setCell (by simp) _
    generalize ((wd.setCell ⟨w.heap.size + 2, 0, none⟩ (.int .u8 l)).setCell ⟨w.heap.size + 2, 1, none⟩ (.int .i64 (r + 1))) = w9 at hR9 hB9 ⊢
    have d0 := hR9.cell 0
    have d1 := hR9.cell 1
    exact bodyPost_ret (v := .tuple #[.agg #[.int .u8 l, .int .i64 (r + 1)], .bool (decide (r < s.flood))]) (by simp [results, Try.results149, go_sem, d0, d1]) rfl ⟨rfl, hB9⟩
  · have b2 : ((l : Int) == 119) = false := by simp; omega
    rw [if_neg hl]
    clear hl
    go_enter Try.func149, Try.ntmps149
    go_upto_region 6 with fail
    rw [← hw3]
    clear hw3
    refine wp_region_mix2 (.pur 0 (.pur 1 (.one 2 (.pur 3 (.pur 4 (.pur 5 (.pur 6 (.pur 7 (.pur 8 (.act 9 (.pur 10 .fin))))))))))) 9 (fun w' => Blk w.heap.size #[.int .u8 l, .int .i64 r] 159 w' ∧ Blk (w.heap.size + 2) #[.int .u8 0, .int .i64 0] 159 w') (Blk w.heap.size #[.int .u8 l, .int .i64 r] 159) (by kernel_rfl) (by kernel_rfl) rfl (by kernel_rfl) ⟨hX.call (((Qt.refl w3).drewN 1).below _), hR.call (((Qt.refl w3).drewN 1).below _)⟩ (fun wd hqd _ => ?_)
    refine mix_pur2 rfl (fun K hK => ?_)
    go_simp
    first | refine ⟨_, fun _ => rfl, hK _ ?_⟩ | refine hK _ ?_
    clear hK K
    refine mix_pur2 rfl (fun K hK => ?_)
    go_simp
    first | refine ⟨_, fun _ => rfl, hK _ ?_⟩ | refine hK _ ?_
    clear hK K
    refine mix_load2 rfl rfl rfl (.int .i64 r) (fun w' h => by have h : (fun w' => Blk w.heap.size #[.int .u8 l, .int .i64 r] 159 w' ∧ Blk (w.heap.size + 2) #[.int .u8 0, .int .i64 0] 159 w') w' := h; have h0 := h.1.cell 1; go_simp) rfl ?_
    refine mix_pur2 rfl (fun K hK => ?_)
    go_simp
    first | refine ⟨_, fun _ => rfl, hK _ ?_⟩ | refine hK _ ?_
    clear hK K
    refine mix_pur2 rfl (fun K hK => ?_)
    go_simp
    first | refine ⟨_, fun _ => rfl, hK _ ?_⟩ | refine hK _ ?_
    clear hK K
    refine mix_pur2 rfl (fun K hK => ?_)
    go_simp
    first | refine ⟨_, fun _ => rfl, hK _ ?_⟩ | refine hK _ ?_
    clear hK K
    refine mix_pload2 rfl rfl rfl (.int .i64 r) (fun w' h => by have h : (fun w' => Blk w.heap.size #[.int .u8 l, .int .i64 r] 159 w' ∧ Blk (w.heap.size + 2) #[.int .u8 0, .int .i64 0] 159 w') w' ∨ (Blk w.heap.size #[.int .u8 l, .int .i64 r] 159) w' := h; have h0 := (h.elim (fun h => h.1) id).cell 1; go_simp) rfl ?_
    refine mix_pur2 rfl (fun K hK => ?_)
    go_simp
    first | refine ⟨_, fun _ => rfl, hK _ ?_⟩ | refine hK _ ?_
    clear hK K
    refine mix_pur2 rfl (fun K hK => ?_)
    go_simp
    first | refine ⟨_, fun _ => rfl, hK _ ?_⟩ | refine hK _ ?_
    clear hK K
    refine mix_eff2 rfl true rfl (fun K hK => ?_)
    have y0 := (hR.call (hqd.below _)).cell 0
    have y1 := (hR.call (hqd.below _)).cell 1
    have y2 := (hR.call (hqd.below _)).free 0
    have y3 := (hR.call (hqd.below _)).free 1
    go_simp
    refine hK _ _ (((hX.call (hqd.below _)).other (a := ⟨w.heap.size + 2, 0, none⟩) (by simp) _).other (a := ⟨w.heap.size + 2, 1, none⟩) (by simp) _) ?_
    clear hK K
    refine mix_pur2 rfl (fun K hK => ?_)
    go_simp
    first | refine ⟨_, fun _ => rfl, hK _ ?_⟩ | refine hK _ ?_
    clear hK K
    refine mix_done2 ?_
    go_wp2
    have hR9 : Blk (w.heap.size + 2) #[.int .u8 l, .int .i64 (r + 1)] 159 ((wd.setCell ⟨w.heap.size + 2, 0, none⟩ (.int .u8 l)).setCell ⟨w.heap.size + 2, 1, none⟩ (.int .i64 (r + 1))) := by simpa using ((hR.call (hqd.below _)).set 0 (.int .u8 l)).set 1 (.int .i64 (r + 1))
    have hB9 : Below w.heap.size w ((wd.setCell ⟨w.heap.size + 2, 0, none⟩ (.int .u8 l)).setCell ⟨w.heap.size + 2, 1, none⟩ (.int .i64 (r + 1))) := ((hB.trans (hqd.below _)).setCell (by simp) _).setCell (by simp) _
    generalize ((wd.setCell ⟨w.heap.size + 2, 0, none⟩ (.int .u8 l)).setCell ⟨w.heap.size + 2, 1, none⟩ (.int .i64 (r + 1))) = w9 at hR9 hB9 ⊢
    have d0 := hR9.cell 0
    have d1 := hR9.cell 1
    exact bodyPost_ret (v := .tuple #[.agg #[.int .u8 l, .int .i64 (r + 1)], .bool (decide (r < s.drought))]) (by simp [results, Try.results149, go_sem, d0, d1]) rfl ⟨rfl, hB9⟩

end Go.Proofs.Ythchpoabncdicaa

namespace Go.Proofs.Ythchpoabncdicaa
open Go.RowKit

theorem spell_c {s : Sky} {x : Nat × Int} {l : Nat} (hr : 0 ≤ x.2 ∧ x.2 ≤ 100) (w : World) :
    Calls Try.prog 149 #[.agg #[.int .u8 x.1, .int .i64 x.2], (.agg #[.int .i64 s.days, .int .i64 s.drought, .int .i64 s.flood]), .int .u8 l] w fun e w' => e = .returned (.tuple #[.agg #[.int .u8 (spNx x l).1, .int .i64 (spNx x l).2], .bool (spOk s x l)]) ∧ Below w.heap.size w w' := by
  obtain ⟨l0, r⟩ := x
  by_cases h : l0 = l
  · subst h
    have := next_s (s := s) (l := l0) hr w
    simpa [spNx, spOk] using this
  · have := next_n (s := s) (r := r) h w
    simpa [spNx, spOk, h] using this

def lettV (r : List Nat) : List Value := r.map fun n : Nat => Value.int .u8 (n : Int)
def strR (r : List Nat) : Value := .string (strOfNums (r.map fun n : Nat => (n : Int)))
theorem lettV_len (r : List Nat) : (lettV r).length = r.length := List.length_map _

/-- What the iterator keeps. -/
structure RG (sb y0 g d lr : Nat) (s : Sky) (own : Nat → Prop) (cur : List Nat) (W : World) : Prop where
  ns : sb < y0
  bs : Blk sb #[.int .i64 s.days, .int .i64 s.drought, .int .i64 s.flood] 67 W
  by_ : Blk y0 #[.func (.yield lr) #[] #[]] 155 W
  bg : Blk (y0 + 1) #[.func (.func 148) #[] #[.pointer (some ⟨sb, 0, none⟩), .pointer (some ⟨y0, 0, none⟩), .pointer (some ⟨y0 + 1, 0, none⟩)]] 156 W
  buf : ∃ cs : Array Value, W.heap[g]? = some (.cells cs 5 (0, 0)) ∧ cs.size = d ∧ cs.toList.take cur.length = lettV cur
  gg : y0 + 1 < g
  n0 : ¬ own sb
  n1 : ¬ own y0
  n2 : ¬ own (y0 + 1)
  n3 : ¬ own g
structure LvR (g : Nat) (own own' : Nat → Prop) (W W' : World) : Prop where
  size : W.heap.size ≤ W'.heap.size
  keep : ∀ k, k < W.heap.size → ¬ own k → k ≠ g → W'.heap[k]? = W.heap[k]? ∧ ¬ own' k
theorem LvR.refl (g : Nat) (own : Nat → Prop) (W : World) : LvR g own own W W := ⟨Nat.le_refl _, fun _ _ h _ => ⟨rfl, h⟩⟩
theorem LvR.trans {g : Nat} {o1 o2 o3 : Nat → Prop} {a b c : World} (h : LvR g o1 o2 a b) (k : LvR g o2 o3 b c) : LvR g o1 o3 a c :=
  ⟨Nat.le_trans h.size k.size, fun i hi h1 h2 => by
    obtain ⟨e1, e2⟩ := h.keep i hi h1 h2
    obtain ⟨f1, f2⟩ := k.keep i (Nat.lt_of_lt_of_le hi h.size) e2 h2
    exact ⟨f1.trans e1, f2⟩⟩
theorem RG.glt {sb y0 g d lr : Nat} {s : Sky} {own : Nat → Prop} {cur : List Nat} {W : World} (h : RG sb y0 g d lr s own cur W) : g < W.heap.size := by
  obtain ⟨cs, h1, -, -⟩ := h.buf
  exact (Array.getElem?_eq_some_iff.1 h1).1
theorem RG.step {sb y0 g d lr : Nat} {s : Sky} {own own' : Nat → Prop} {cur : List Nat} {W W' : World} (h : RG sb y0 g d lr s own cur W) (hk : ∀ k, k < W.heap.size → ¬ own k → W'.heap[k]? = W.heap[k]?) (ho : ∀ k, k < W.heap.size → own' k → own k) : RG sb y0 g d lr s own' cur W' := by
  have hg := h.glt
  have h1 := h.ns
  have h2 := h.gg
  obtain ⟨cs, c1, c2, c3⟩ := h.buf
  exact ⟨h1, h.bs.keep (hk _ (by omega) h.n0), h.by_.keep (hk _ (by omega) h.n1), h.bg.keep (hk _ (by omega) h.n2), ⟨cs, (hk g hg h.n3).trans c1, c2, c3⟩, h2, fun e => h.n0 (ho _ (by omega) e), fun e => h.n1 (ho _ (by omega) e), fun e => h.n2 (ho _ (by omega) e), fun e => h.n3 (ho _ hg e)⟩

/-- How a call of grow ends. -/
def RGEnd (sb y0 g d lr : Nat) (s : Sky) (J Jx : (Nat → Prop) → List Value → World → Prop) (own : Nat → Prop) (cur : List Nat) (pre xs : List Value) (W : World) (e : Ending) (W' : World) : Prop :=
  ∃ own' b, e = .returned (.bool b) ∧ RG sb y0 g d lr s own' cur W' ∧ LvR g own own' W W' ∧ (if b then J own' (pre ++ xs) W' else ∃ q, q <+: xs ∧ Jx own' (pre ++ q) W')
def RGOk (sb y0 g d lr : Nat) (s : Sky) (all : List Value) (J Jx : (Nat → Prop) → List Value → World → Prop) (k : Nat) : Prop :=
  ∀ own pre rest W cur x, RG sb y0 g d lr s own cur W → J own pre W → cur.length + k = d → 0 ≤ x.2 ∧ x.2 ≤ (cur.length : Int) → all = pre ++ (growR s k cur x).map strR ++ rest →
    Calls Try.prog 148 #[.slice (some ⟨g, 0, none⟩) cur.length d, .agg #[.int .u8 x.1, .int .i64 x.2], .pointer (some ⟨sb, 0, none⟩), .pointer (some ⟨y0, 0, none⟩), .pointer (some ⟨y0 + 1, 0, none⟩)] W
      (RGEnd sb y0 g d lr s J Jx own cur pre ((growR s k cur x).map strR) W)

theorem RG.cells {sb y0 g d lr : Nat} {s : Sky} {own : Nat → Prop} {cur : List Nat} {W : World} (h : RG sb y0 g d lr s own cur W) (i : Nat) (hi : i < cur.length) : W.cell? ⟨g, 0 + i, none⟩ = some (.int .u8 ((cur.map fun n : Nat => (n : Int)).getD i 0)) := by
  obtain ⟨cs, h1, h2, h3⟩ := h.buf
  have h4 : (cs.toList.take cur.length)[i]? = some (.int .u8 (cur[i] : Int)) := by
    rw [h3]
    simp [lettV, hi]
  rw [List.getElem?_take, if_pos hi] at h4
  rw [Nat.zero_add, World.cell?, h1]
  simp only [Option.isSome_none, Bool.false_eq_true, if_false]
  simpa [List.getD, hi] using h4

set_option maxRecDepth 100000 in
set_option maxHeartbeats 1000000 in
theorem rain_leaf {sb y0 g d lr : Nat} {s : Sky} {all : List Value} (hd : s.days = (d : Int)) {J Jx : (Nat → Prop) → List Value → World → Prop} (sJ : SideV J) (hR : RndV lr all J Jx) : RGOk sb y0 g d lr s all J Jx 0 := by
  intro own pre rest W cur x hI hJ hlen hx hall
  have hlt := sJ.lt own pre W hJ
  have hcd : cur.length = d := by omega
  have b1 : ((cur.length : Int) == (d : Int)) = true := by rw [hcd]; simp
  have hI1 : RG sb y0 g d lr s own cur (W.alloc (.cells #[.int .u8 x.1, .int .i64 x.2] 159)) := hI.step (fun k hk _ => Below.heap_alloc W _ k hk) fun _ _ h => h
  have c0 := hI1.bs.cell 0
  have c1 := hI1.by_.cell 0
  have hcv := run_convert_bytes_arg (P := Try.prog) (W.alloc (.cells #[.int .u8 x.1, .int .i64 x.2] 159)) 157 5 Try.underlying157 Try.underlying5 g 0 cur.length d (cur.map fun n : Nat => (n : Int)) (by simp) (fun i hi => hI1.cells i hi) 9 Try.underlying9
  have hJ1 : J own pre (W.alloc (.cells #[.int .u8 x.1, .int .i64 x.2] 159)) := sJ.step _ _ _ _ hJ (Keep.alloc W _)
  have hp : pre ++ [strR cur] <+: all := by rw [hall]; exact List.prefix_append _ _
  have hr := hR own pre (strR cur) _ W.heap.size hJ1 hlt (by simp) hp
  obtain ⟨fn, tmps, assign, body, hy, hRr⟩ := hr
  rw [show Value.string (strOfNums (cur.map fun n : Nat => (n : Int))) = strR cur from rfl] at hcv
  obtain ⟨sv, hsv⟩ : ∃ sv, sv = strR cur := ⟨_, rfl⟩
  rw [← hsv] at hcv hy hRr
  have HALL := Lib.hid hall
  have HLT := Lib.hid hlt
  have HCD := Lib.hid hcd
  have HR := Lib.hid hRr
  have HSV := Lib.hid hsv
  clear hall hlt hRr hcd hlen hp hsv
  go_enter Try.func148, Try.ntmps148
  go_upto_region 2 with fail
  refine (wpIn_wide (n := 9)).1 ?_
  gi_wp2_with fail
  refine HR.out.mono ?_
  rintro e w3 ⟨own3, h1, h2, h3, hend⟩
  have hkp : ∀ k, k < W.heap.size → ¬ own k → w3.heap[k]? = W.heap[k]? := fun k hk hn => (h2 k hk hn).trans (Below.heap_alloc W _ k hk)
  have hsz : W.heap.size ≤ w3.heap.size := by simp at h3; omega
  have hlv : LvR g own own3 W w3 := ⟨hsz, fun k hk hn _ => ⟨hkp k hk hn, fun h => hn (h1 k hk h)⟩⟩
  have hrg : RG sb y0 g d lr s own3 cur w3 := hI.step hkp h1
  have e0 : (growR s 0 cur x).map strR = [sv] := by rw [HSV.out]; rfl
  have E0 := Lib.hid e0
  clear e0 hkp hsz h3
  rcases hend with ⟨rfl, hj⟩ | ⟨rfl, hj⟩
  · simp only []
    go_at_K
    gi_wp2
    go_wp2
    go_ret
    exact ⟨own3, true, rfl, hrg, hlv, by rw [E0.out]; exact hj⟩
  · simp only []
    go_at_K
    gi_wp2
    go_wp2
    go_ret
    exact ⟨own3, false, rfl, hrg, hlv, [sv], by rw [E0.out]; exact List.prefix_refl _, hj⟩

section
variable {P : Program} {w : World}
/-- An append into room that is there: one cell. -/
theorem step_append_room {ops : Array Oper} {o : Oper} {a : Act} {K : Act → World → Prop} {Q : Exit → Act → World → Prop} {E : Prop} (hw : Region.wanted o (yielded ops a.tmps) = true) (s x : Operand) (t : TypeId)
    (ho : o.op = .call { callee := .builtin .append, args := #[s, x], argTypes := #[t, t] })
    (e : TypeId) (z : Value) (bytes : Nat) (ht : P.underlying t = some (.slice e)) (hi : (P.info? e).map (fun i => (i.zero, i.size, i.bytes)) = some (some z, 1, bytes))
    {g n cap : Nat} {cur : Array Value} (hg : w.heap[g]? = some (.cells cur e (0, 0))) (hs : a.eval s = .slice (some ⟨g, 0, none⟩) n cap)
    {b : Nat} {c : Nat} {u : Value} (hx : a.eval x = .slice (some ⟨b, 0, none⟩) 1 c) (hu : w.cell? ⟨b, 0, none⟩ = some u) (h1 : u.oneCell' = true) (hroom : n + 1 ≤ cap) (hfit : n + 1 ≤ cur.size)
    (h : K (a.put o.dst (.slice (some ⟨g, 0, none⟩) (n + 1) cap)) (w.setRow g (cur.toList.take n ++ [u] ++ cur.toList.drop (n + 1)).toArray)) :
    if Region.wanted o (yielded ops a.tmps) = true then Oper.wp P o a w K Q else E := by
  rw [if_pos hw]
  obtain ⟨i, hi', hz, hs1, hb⟩ := info_parts hi
  have hrun := run_append_room (P := P) (w := w) t o.type e i ht hi' g n cap cur hg ⟨b, 0, none⟩ 1 c [u] (by rw [hs1]; rfl) (fun j v hj => by
    cases j with
    | zero => injection hj with hj; subst hj; simpa [Addr.add] using hu
    | succ j => simp at hj) (fun v hv => by rw [List.mem_singleton] at hv; subst hv; exact h1) hroom (by rw [hs1]; simpa using hfit)
  rw [hs1, Nat.mul_one] at hrun
  unfold Oper.wp
  simp only [execOp, ho, resolve, invoke, builtin, Sem.run_bind, Sem.run_pure, Result.andThen_ok, List.map_toArray, List.map_cons, List.map_nil, hs, hx, hrun]
  exact h
end

theorem Try.info5 : (Try.prog.info? 5).map (fun i => (i.zero, i.size, i.bytes)) = some (some (.int .u8 0), 1, 1) := by kernel_rfl

theorem RG.shorter {sb y0 g d lr : Nat} {s : Sky} {own : Nat → Prop} {cur : List Nat} {l : Nat} {W : World} (h : RG sb y0 g d lr s own (cur ++ [l]) W) : RG sb y0 g d lr s own cur W := by
  obtain ⟨cs, h1, h2, h3⟩ := h.buf
  refine ⟨h.ns, h.bs, h.by_, h.bg, ⟨cs, h1, h2, ?_⟩, h.gg, h.n0, h.n1, h.n2, h.n3⟩
  have := congrArg (List.take cur.length) h3
  rw [List.take_take, List.length_append, Nat.min_eq_left (by omega)] at this
  rw [this]
  simp [lettV]
theorem RG.push {sb y0 g d lr : Nat} {s : Sky} {own : Nat → Prop} {cur : List Nat} {l : Nat} {W : World} {cs : Array Value} (h : RG sb y0 g d lr s own cur W) (hc : W.heap[g]? = some (.cells cs 5 (0, 0))) (hs : cs.size = d) (ht : cs.toList.take cur.length = lettV cur) (hl : cur.length + 1 ≤ d) :
    RG sb y0 g d lr s own (cur ++ [l]) (W.setRow g (cs.toList.take cur.length ++ [Value.int .u8 (l : Int)] ++ cs.toList.drop (cur.length + 1)).toArray) := by
  have h1 := h.ns
  have h2 := h.gg
  have ho : ∀ k, k ≠ g → (W.setRow g (cs.toList.take cur.length ++ [Value.int .u8 (l : Int)] ++ cs.toList.drop (cur.length + 1)).toArray).heap[k]? = W.heap[k]? := fun k hk => setRow_other W g k _ hk
  refine ⟨h1, h.bs.keep (ho _ (by omega)), h.by_.keep (ho _ (by omega)), h.bg.keep (ho _ (by omega)), ⟨_, setRow_heap W g cs _ 5 _ hc, ?_, ?_⟩, h2, h.n0, h.n1, h.n2, h.n3⟩
  · simp only [List.size_toArray, List.length_append, List.length_take, List.length_drop, Array.length_toList, List.length_singleton]
    omega
  · rw [ht]
    have e : lettV cur ++ [.int .u8 (l : Int)] = lettV (cur ++ [l]) := by simp [lettV]
    rw [e]
    have e2 : (cur ++ [l]).length = (lettV (cur ++ [l])).length := (lettV_len _).symm
    rw [e2]
    exact List.take_left

/-- What has come of the two letters. -/
def partR (s : Sky) (k : Nat) (cur : List Nat) (x : Nat × Int) : Nat → List (List Nat)
  | 0 => []
  | 1 => if spOk s x 100 = true then growR s k (cur ++ [100]) (spNx x 100) else []
  | _ => growR s (k + 1) cur x
theorem part_next0 (s : Sky) (k : Nat) (cur : List Nat) (x : Nat × Int) : partR s k cur x 1 = partR s k cur x 0 ++ (if spOk s x 100 = true then growR s k (cur ++ [100]) (spNx x 100) else []) := rfl
theorem part_next1 (s : Sky) (k : Nat) (cur : List Nat) (x : Nat × Int) : partR s k cur x 2 = partR s k cur x 1 ++ (if spOk s x 119 = true then growR s k (cur ++ [119]) (spNx x 119) else []) := rfl
theorem part_rest0 (s : Sky) (k : Nat) (cur : List Nat) (x : Nat × Int) : growR s (k + 1) cur x = partR s k cur x 1 ++ (if spOk s x 119 = true then growR s k (cur ++ [119]) (spNx x 119) else []) := rfl
theorem spNx_row {x : Nat × Int} {l : Nat} {n : Int} (h : 0 ≤ x.2 ∧ x.2 ≤ n) : 0 ≤ (spNx x l).2 ∧ (spNx x l).2 ≤ n + 1 := by
  unfold spNx
  split <;> simp only <;> omega

@[go_sem] theorem Try.index160_0 (w : World) : (Instr.index 160 (.agg #[.int .u8 100, .int .u8 119]) (.int .i64 0)).run Try.prog w = .ok (.int .u8 100) w := by
  have hu : Try.prog.underlying 160 = some (.array 2 5) := by kernel_rfl
  have hs : (Try.prog.info? 5).map (·.size) = some 1 := by kernel_rfl
  obtain ⟨i, hi, hs⟩ := Option.map_eq_some_iff.1 hs
  simp [Instr.index, run_underlying hu, sizeOf, typeInfo, hi, hs, Sem.run_bind, Sem.run_pure, asIntOf, part, go_sem]
@[go_sem] theorem Try.index160_1 (w : World) : (Instr.index 160 (.agg #[.int .u8 100, .int .u8 119]) (.int .i64 1)).run Try.prog w = .ok (.int .u8 119) w := by
  have hu : Try.prog.underlying 160 = some (.array 2 5) := by kernel_rfl
  have hs : (Try.prog.info? 5).map (·.size) = some 1 := by kernel_rfl
  obtain ⟨i, hi, hs⟩ := Option.map_eq_some_iff.1 hs
  simp [Instr.index, run_underlying hu, sizeOf, typeInfo, hi, hs, Sem.run_bind, Sem.run_pure, asIntOf, part, go_sem]

set_option maxRecDepth 100000 in
set_option maxHeartbeats 4000000 in
theorem rain_step {sb y0 g d lr k : Nat} {s : Sky} {all : List Value} (hd : s.days = (d : Int)) (hd8 : d ≤ 8) {J Jx : (Nat → Prop) → List Value → World → Prop} (sJ : SideV J) (hG : RGOk sb y0 g d lr s all J Jx k) : RGOk sb y0 g d lr s all J Jx (k + 1) := by
  intro own pre rest W cur x hI hJ hlen hx hall
  have hlt := sJ.lt own pre W hJ
  have b1 : ((cur.length : Int) == s.days) = false := by rw [hd]; simp; omega
  have HD := Lib.hid hd
  clear hd
  have hI1 : RG sb y0 g d lr s own cur (W.alloc (.cells #[.int .u8 x.1, .int .i64 x.2] 159)) := hI.step (fun k hk _ => Below.heap_alloc W _ k hk) fun _ _ h => h
  have hX1 : Blk W.heap.size #[.int .u8 x.1, .int .i64 x.2] 159 (W.alloc (.cells #[.int .u8 x.1, .int .i64 x.2] 159)) := Blk.new W _ _
  have hJ1 : J own pre (W.alloc (.cells #[.int .u8 x.1, .int .i64 x.2] 159)) := sJ.step _ _ _ _ hJ (Keep.alloc W _)
  have hno : ¬ own W.heap.size := fun h => by have := hlt _ h; omega
  have hL1 : LvR g own own W (W.alloc (.cells #[.int .u8 x.1, .int .i64 x.2] 159)) := ⟨by simp, fun k hk hn _ => ⟨Below.heap_alloc W _ k hk, hn⟩⟩
  have hgl := hI1.glt
  obtain ⟨bx, hbx⟩ : ∃ b, b = W.heap.size := ⟨_, rfl⟩
  have hgb : g ≠ bx := by have := hI.glt; omega
  have hbl : bx < (W.alloc (.cells #[.int .u8 x.1, .int .i64 x.2] 159)).heap.size := by rw [hbx]; simp
  rw [← hbx] at hX1 hno
  have HALL := Lib.hid hall
  have hcl : cur.length + 1 ≤ d := by omega
  have HLEN := Lib.hid hlen
  have HG := Lib.hid hG
  have c0 := hI1.bs.cell 0
  clear hall hlt hG hlen hI hJ
  go_enter Try.func148, Try.ntmps148
  go_upto_region 3 with fail
  rw [← hbx]
  clear hbx c0
  obtain ⟨W1, hW1⟩ : ∃ W1, W1 = (W.alloc (.cells #[.int .u8 x.1, .int .i64 x.2] 159)) := ⟨_, rfl⟩
  rw [← hW1] at hI1 hX1 hJ1 hL1 hgl hbl ⊢
  clear hW1
  go_wp2_with fail
  go_loopw [22] (fun i wr => ∃ m : Nat, m ≤ 2 ∧ i = .int .i64 m ∧ ∃ own', RG sb y0 g d lr s own' cur wr ∧ LvR g own own' W1 wr ∧ Blk bx #[.int .u8 x.1, .int .i64 x.2] 159 wr ∧ ¬ own' bx ∧ J own' (pre ++ (partR s k cur x m).map strR) wr) (fun i _ => 2 - (intOf i).toNat)
  case atStart => exact ⟨0, Nat.zero_le _, rfl, own, hI1, LvR.refl _ _ _, hX1, hno, by simpa [partR] using hJ1⟩
  case round =>
    rename World => wa
    obtain ⟨m, hm, rfl, own', hI', hL', hX', hn', hJ'⟩ := hrel
    clear hI1 hX1 hJ1 hno
    have c0 := hI'.bs.cell 0
    have c1 := hI'.bs.cell 1
    have c2 := hI'.bs.cell 2
    have c3 := hX'.cell 0
    have c4 := hX'.cell 1
    have hm3 : m = 0 ∨ m = 1 ∨ m = 2 := by omega
    rcases hm3 with rfl | rfl | rfl
    · by_cases hok : spOk s x 100 = true
      · go_wp2_with fail
        refine (spell_c (l := 100) ⟨hx.1, by omega⟩ _).mono ?_
        rintro e w5 ⟨rfl, hB5⟩
        go_wp2_with fail
        have hB6 : Below wa.heap.size wa (w5.alloc (.cells #[.int .u8 (spNx x 100).1, .int .i64 (spNx x 100).2] 159)) := hB5.alloc hB5.size _
        have hsp : Blk w5.heap.size #[.int .u8 (spNx x 100).1, .int .i64 (spNx x 100).2] 159 (w5.alloc (.cells #[.int .u8 (spNx x 100).1, .int .i64 (spNx x 100).2] 159)) := Blk.new w5 _ _
        obtain ⟨sp, hsp0⟩ : ∃ b, b = w5.heap.size := ⟨_, rfl⟩
        rw [← hsp0] at hsp ⊢
        have hspl : wa.heap.size ≤ sp := by have := hB5.size; omega
        clear hsp0 hB5
        generalize w5.alloc (.cells #[.int .u8 (spNx x 100).1, .int .i64 (spNx x 100).2] 159) = w6 at hB6 hsp ⊢
        have hI6 : RG sb y0 g d lr s own' cur w6 := hI'.step (fun q hq _ => hB6.block q hq) fun _ _ h => h
        have hX6 := hX'.call hB6
        have hJ6 := sJ.step _ _ _ _ hJ' (Keep.call hB6)
        have hz6 := hB6.size
        have hga := hI'.glt
        have hba := hX'.lt
        clear c0 c1 c2 c3 c4
        refine wp_region_mix2 (.pur 0 (.pur 1 (.one 2 (.pur 3 (.pur 4 (.one 7 (.act 5 (.act 6 (.act 8 (.pur 9 (.pur 10 .fin))))))))))) 8 (fun w' => Blk (y0 + 1) #[.func (.func 148) #[] #[.pointer (some ⟨sb, 0, none⟩), .pointer (some ⟨y0, 0, none⟩), .pointer (some ⟨y0 + 1, 0, none⟩)]] 156 w' ∧ Blk sp #[.int .u8 (spNx x 100).1, .int .i64 (spNx x 100).2] 159 w') (fun _ => True) (by kernel_rfl) (by kernel_rfl) rfl (by kernel_rfl) ⟨hI6.bg.call (((Qt.refl w6).drewN 1).below _), hsp.call (((Qt.refl w6).drewN 1).below _)⟩ (fun wd hqd _ => ?_)
        have hI7 : RG sb y0 g d lr s own' cur wd := hI6.step (fun q _ _ => by rw [hqd.heap]) fun _ _ h => h
        have hsp7 := hsp.call (hqd.below _)
        have hX7 := hX6.call (hqd.below _)
        have hJ7 := sJ.step _ _ _ _ hJ6 (Keep.qt hqd)
        obtain ⟨cs, hc1, hc2, hc3⟩ := hI7.buf
        have hqs1 : w6.heap.size ≤ wd.heap.size := Nat.le_of_eq hqd.size.symm
        have hqs2 : wd.heap.size ≤ w6.heap.size := Nat.le_of_eq hqd.size
        have HQH := Lib.hid hqd.heap
        refine mix_pur2 rfl (fun K hK => ?_)
        go_simp
        first | refine ⟨_, fun _ => rfl, hK _ ?_⟩ | refine hK _ ?_
        clear hK K
        refine mix_pur2 rfl (fun K hK => ?_)
        go_simp
        first | refine ⟨_, fun _ => rfl, hK _ ?_⟩ | refine hK _ ?_
        clear hK K
        refine mix_loadg2 rfl rfl (.func (.func 148) #[] #[.pointer (some ⟨sb, 0, none⟩), .pointer (some ⟨y0, 0, none⟩), .pointer (some ⟨y0 + 1, 0, none⟩)]) (by go_simp) (fun w' h => by have h : (fun w' => Blk (y0 + 1) #[.func (.func 148) #[] #[.pointer (some ⟨sb, 0, none⟩), .pointer (some ⟨y0, 0, none⟩), .pointer (some ⟨y0 + 1, 0, none⟩)]] 156 w' ∧ Blk sp #[.int .u8 (spNx x 100).1, .int .i64 (spNx x 100).2] 159 w') w' := h; have h0 := h.1.cell 0; go_simp) rfl ?_
        refine mix_pur2 rfl (fun K hK => ?_)
        go_simp
        first | refine ⟨_, fun _ => rfl, hK _ ?_⟩ | refine hK _ ?_
        clear hK K
        refine mix_pur2 rfl (fun K hK => ?_)
        go_simp
        first | refine ⟨_, fun _ => rfl, hK _ ?_⟩ | refine hK _ ?_
        clear hK K
        refine mix_loadg2 rfl rfl (.agg #[.int .u8 (spNx x 100).1, .int .i64 (spNx x 100).2]) (by go_simp) (fun w' h => by have h : (fun w' => Blk (y0 + 1) #[.func (.func 148) #[] #[.pointer (some ⟨sb, 0, none⟩), .pointer (some ⟨y0, 0, none⟩), .pointer (some ⟨y0 + 1, 0, none⟩)]] 156 w' ∧ Blk sp #[.int .u8 (spNx x 100).1, .int .i64 (spNx x 100).2] 159 w') w' := h; have h0 := h.2.cell 0; have h1 := h.2.cell 1; go_simp) rfl ?_
        refine mix_eff2 rfl false rfl (fun K hK => ?_)
        go_simp
        refine hK _ _ ⟨hI7.bg.alloc _, hsp7.alloc _⟩ ?_
        clear hK K
        refine mix_eff2 rfl false rfl (fun K hK => ?_)
        have hc6 : (wd.alloc (.cells #[.int .u8 100] 5)).heap[g]? = some (.cells cs 5 (0, 0)) := (Below.heap_alloc wd _ g hI7.glt).trans hc1
        have hu6 : (wd.alloc (.cells #[.int .u8 100] 5)).cell? ⟨wd.heap.size, 0, none⟩ = some (.int .u8 100) := (Blk.new wd _ _).cell 0
        refine step_append_room (by go_simp) (.tmp 35) (.tmp 37) 157 rfl 5 (.int .u8 0) 1 Try.underlying157 Try.info5 hc6 rfl rfl hu6 rfl (by omega) (by omega) ?_
        have ho8 : ∀ q, q < wd.heap.size → q ≠ g → ((wd.alloc (.cells #[.int .u8 100] 5)).setRow g ((cs.toList.take cur.length ++ [Value.int .u8 (100 : Int)] ++ cs.toList.drop (cur.length + 1)).toArray)).heap[q]? = wd.heap[q]? := fun q hq hne => (setRow_other _ g q _ hne).trans (Below.heap_alloc wd _ q hq)
        have hz8 : wd.heap.size ≤ ((wd.alloc (.cells #[.int .u8 100] 5)).setRow g ((cs.toList.take cur.length ++ [Value.int .u8 (100 : Int)] ++ cs.toList.drop (cur.length + 1)).toArray)).heap.size := by simp
        have hI8 : RG sb y0 g d lr s own' (cur ++ [100]) ((wd.alloc (.cells #[.int .u8 100] 5)).setRow g ((cs.toList.take cur.length ++ [Value.int .u8 (100 : Int)] ++ cs.toList.drop (cur.length + 1)).toArray)) := (hI7.step (fun q hq _ => Below.heap_alloc wd _ q hq) fun _ _ h => h).push hc6 hc2 hc3 hcl
        have hJ8 : J own' (pre ++ ((partR s k cur x 0).map strR)) ((wd.alloc (.cells #[.int .u8 100] 5)).setRow g ((cs.toList.take cur.length ++ [Value.int .u8 (100 : Int)] ++ cs.toList.drop (cur.length + 1)).toArray)) := sJ.step _ _ _ _ hJ7 ((Keep.alloc wd _).trans ⟨rfl, rfl, rfl, by simp, fun q _ hn => setRow_other _ g q _ (fun e => hn (e ▸ hI7.n3))⟩)
        generalize ((wd.alloc (.cells #[.int .u8 100] 5)).setRow g ((cs.toList.take cur.length ++ [Value.int .u8 (100 : Int)] ++ cs.toList.drop (cur.length + 1)).toArray)) = w8 at ho8 hz8 hI8 hJ8 ⊢
        refine hK _ _ ⟨hI8.bg, hsp7.keep (ho8 _ hsp7.lt (by omega))⟩ ?_
        clear hK K hc6 hu6
        refine mix_eff2 rfl true rfl (fun K hK => ?_)
        go_simp
        have hcall := HG.out own' (pre ++ ((partR s k cur x 0).map strR)) ((if spOk s x 119 = true then growR s k (cur ++ [119]) (spNx x 119) else []).map strR ++ rest) w8 (cur ++ [100]) (spNx x 100) hI8 hJ8 (by have := HLEN.out; rw [List.length_append, List.length_singleton]; omega) (by rw [List.length_append, List.length_singleton]; exact spNx_row hx) (by rw [HALL.out, part_rest0, part_next0, if_pos hok]; simp)
        rw [List.length_append, List.length_singleton] at hcall
        refine hcall.mono ?_
        rintro e w9 ⟨own9, b9, rfl, hI9, hL9, hend⟩
        refine hK _ _ trivial ?_
        clear hK K hcall
        refine mix_pur2 rfl (fun K hK => ?_)
        go_simp
        first | refine ⟨_, fun _ => rfl, hK _ ?_⟩ | refine hK _ ?_
        clear hK K
        refine mix_pur2 rfl (fun K hK => ?_)
        go_simp
        first | refine ⟨_, fun _ => rfl, hK _ ?_⟩ | refine hK _ ?_
        clear hK K
        refine mix_done2 ?_
        have hL8 : LvR g own' own' wa w8 := ⟨by omega, fun q hq hn hne => ⟨(ho8 q (by omega) hne).trans (by rw [HQH.out]; exact hB6.block q hq), hn⟩⟩
        have hb8 : bx < w8.heap.size := by omega
        have hX9 : Blk bx #[.int .u8 x.1, .int .i64 x.2] 159 w9 := hX'.keep ((hL9.keep bx hb8 hn' (fun e => hgb e.symm)).1.trans (hL8.keep bx hba hn' (fun e => hgb e.symm)).1)
        have hn9 : ¬ own9 bx := (hL9.keep bx hb8 hn' (fun e => hgb e.symm)).2
        have hL := (hL'.trans hL8).trans hL9
        have hI10 := hI9.shorter
        clear hL8 hL9 hI9 hI8 hJ8 hI7 hJ7 hI6 hJ6 hX7 hX6 hsp hsp7 ho8 hz8
        have HOK := Lib.hid hok
        clear hok
        cases b9 with
        | true =>
          go_wp2_with fail
          go_roundw
          case rel =>
            refine ⟨1, by omega, by go_num, own9, hI10, hL, hX9, hn9, ?_⟩
            rw [part_next0, if_pos HOK.out, List.map_append, ← List.append_assoc]
            exact hend
          case measure => simp [intOf]
        | false =>
          obtain ⟨q, hq, hjx⟩ := hend
          go_wp2_with fail
          go_ret
          refine ⟨own9, false, rfl, hI10, hL1.trans hL, (partR s k cur x 0).map strR ++ q, ?_, by rw [← List.append_assoc]; exact hjx⟩
          rw [part_rest0, part_next0, if_pos HOK.out]
          simp only [List.map_append, List.append_assoc]
          exact (List.prefix_append_right_inj _).2 (hq.trans (List.prefix_append _ _))
      · have hok : spOk s x 100 = false := by simpa using hok
        go_wp2_with fail
        refine (spell_c (l := 100) ⟨hx.1, by omega⟩ _).mono ?_
        rintro e w5 ⟨rfl, hB5⟩
        go_wp2_with fail
        have hB6 : Below wa.heap.size wa (w5.alloc (.cells #[.int .u8 (spNx x 100).1, .int .i64 (spNx x 100).2] 159)) := hB5.alloc hB5.size _
        have hsp : Blk w5.heap.size #[.int .u8 (spNx x 100).1, .int .i64 (spNx x 100).2] 159 (w5.alloc (.cells #[.int .u8 (spNx x 100).1, .int .i64 (spNx x 100).2] 159)) := Blk.new w5 _ _
        obtain ⟨sp, hsp0⟩ : ∃ b, b = w5.heap.size := ⟨_, rfl⟩
        rw [← hsp0] at hsp ⊢
        have hspl : wa.heap.size ≤ sp := by have := hB5.size; omega
        clear hsp0 hB5
        generalize w5.alloc (.cells #[.int .u8 (spNx x 100).1, .int .i64 (spNx x 100).2] 159) = w6 at hB6 hsp ⊢
        have hI6 : RG sb y0 g d lr s own' cur w6 := hI'.step (fun q hq _ => hB6.block q hq) fun _ _ h => h
        have hX6 := hX'.call hB6
        have hJ6 := sJ.step _ _ _ _ hJ' (Keep.call hB6)
        have hz6 := hB6.size
        have hga := hI'.glt
        have hba := hX'.lt
        clear c0 c1 c2 c3 c4
        refine wp_region_mix2 (.pur 0 (.pur 1 (.pur 2 (.pur 3 (.pur 4 (.pur 5 (.pur 6 (.pur 7 (.pur 8 (.pur 9 (.pur 10 .fin))))))))))) 99 (fun _ => True) (fun _ => True) (by kernel_rfl) (by kernel_rfl) rfl (by kernel_rfl) trivial (fun wd hqd _ => ?_)
        refine mix_pur2 rfl (fun K hK => ?_)
        go_simp
        first | refine ⟨_, fun _ => rfl, hK _ ?_⟩ | refine hK _ ?_
        clear hK K
        refine mix_pur2 rfl (fun K hK => ?_)
        go_simp
        first | refine ⟨_, fun _ => rfl, hK _ ?_⟩ | refine hK _ ?_
        clear hK K
        refine mix_pur2 rfl (fun K hK => ?_)
        go_simp
        first | refine ⟨_, fun _ => rfl, hK _ ?_⟩ | refine hK _ ?_
        clear hK K
        refine mix_pur2 rfl (fun K hK => ?_)
        go_simp
        first | refine ⟨_, fun _ => rfl, hK _ ?_⟩ | refine hK _ ?_
        clear hK K
        refine mix_pur2 rfl (fun K hK => ?_)
        go_simp
        first | refine ⟨_, fun _ => rfl, hK _ ?_⟩ | refine hK _ ?_
        clear hK K
        refine mix_pur2 rfl (fun K hK => ?_)
        go_simp
        first | refine ⟨_, fun _ => rfl, hK _ ?_⟩ | refine hK _ ?_
        clear hK K
        refine mix_pur2 rfl (fun K hK => ?_)
        go_simp
        first | refine ⟨_, fun _ => rfl, hK _ ?_⟩ | refine hK _ ?_
        clear hK K
        refine mix_pur2 rfl (fun K hK => ?_)
        go_simp
        first | refine ⟨_, fun _ => rfl, hK _ ?_⟩ | refine hK _ ?_
        clear hK K
        refine mix_pur2 rfl (fun K hK => ?_)
        go_simp
        first | refine ⟨_, fun _ => rfl, hK _ ?_⟩ | refine hK _ ?_
        clear hK K
        refine mix_pur2 rfl (fun K hK => ?_)
        go_simp
        first | refine ⟨_, fun _ => rfl, hK _ ?_⟩ | refine hK _ ?_
        clear hK K
        refine mix_pur2 rfl (fun K hK => ?_)
        go_simp
        first | refine ⟨_, fun _ => rfl, hK _ ?_⟩ | refine hK _ ?_
        clear hK K
        refine mix_done2 ?_
        have hI7 : RG sb y0 g d lr s own' cur wd := hI6.step (fun q _ _ => by rw [hqd.heap]) fun _ _ h => h
        have hX7 := hX6.call (hqd.below _)
        have hJ7 := sJ.step _ _ _ _ hJ6 (Keep.qt hqd)
        have hqs1 : w6.heap.size ≤ wd.heap.size := Nat.le_of_eq hqd.size.symm
        have hL7 : LvR g own' own' wa wd := ⟨by omega, fun q hq hn hne => ⟨by rw [hqd.heap]; exact hB6.block q hq, hn⟩⟩
        have HOK := Lib.hid hok
        clear hok hI6 hX6 hJ6 hqd
        go_wp2_with fail
        go_roundw
        case rel =>
          refine ⟨1, by omega, by go_num, own', hI7, hL'.trans hL7, hX7, hn', ?_⟩
          rw [part_next0, if_neg (by rw [HOK.out]; decide), List.append_nil]
          exact hJ7
        case measure => simp [intOf]
    · by_cases hok : spOk s x 119 = true
      · go_wp2_with fail
        refine (spell_c (l := 119) ⟨hx.1, by omega⟩ _).mono ?_
        rintro e w5 ⟨rfl, hB5⟩
        go_wp2_with fail
        have hB6 : Below wa.heap.size wa (w5.alloc (.cells #[.int .u8 (spNx x 119).1, .int .i64 (spNx x 119).2] 159)) := hB5.alloc hB5.size _
        have hsp : Blk w5.heap.size #[.int .u8 (spNx x 119).1, .int .i64 (spNx x 119).2] 159 (w5.alloc (.cells #[.int .u8 (spNx x 119).1, .int .i64 (spNx x 119).2] 159)) := Blk.new w5 _ _
        obtain ⟨sp, hsp0⟩ : ∃ b, b = w5.heap.size := ⟨_, rfl⟩
        rw [← hsp0] at hsp ⊢
        have hspl : wa.heap.size ≤ sp := by have := hB5.size; omega
        clear hsp0 hB5
        generalize w5.alloc (.cells #[.int .u8 (spNx x 119).1, .int .i64 (spNx x 119).2] 159) = w6 at hB6 hsp ⊢
        have hI6 : RG sb y0 g d lr s own' cur w6 := hI'.step (fun q hq _ => hB6.block q hq) fun _ _ h => h
        have hX6 := hX'.call hB6
        have hJ6 := sJ.step _ _ _ _ hJ' (Keep.call hB6)
        have hz6 := hB6.size
        have hga := hI'.glt
        have hba := hX'.lt
        clear c0 c1 c2 c3 c4
        refine wp_region_mix2 (.pur 0 (.pur 1 (.one 2 (.pur 3 (.pur 4 (.one 7 (.act 5 (.act 6 (.act 8 (.pur 9 (.pur 10 .fin))))))))))) 8 (fun w' => Blk (y0 + 1) #[.func (.func 148) #[] #[.pointer (some ⟨sb, 0, none⟩), .pointer (some ⟨y0, 0, none⟩), .pointer (some ⟨y0 + 1, 0, none⟩)]] 156 w' ∧ Blk sp #[.int .u8 (spNx x 119).1, .int .i64 (spNx x 119).2] 159 w') (fun _ => True) (by kernel_rfl) (by kernel_rfl) rfl (by kernel_rfl) ⟨hI6.bg.call (((Qt.refl w6).drewN 1).below _), hsp.call (((Qt.refl w6).drewN 1).below _)⟩ (fun wd hqd _ => ?_)
        have hI7 : RG sb y0 g d lr s own' cur wd := hI6.step (fun q _ _ => by rw [hqd.heap]) fun _ _ h => h
        have hsp7 := hsp.call (hqd.below _)
        have hX7 := hX6.call (hqd.below _)
        have hJ7 := sJ.step _ _ _ _ hJ6 (Keep.qt hqd)
        obtain ⟨cs, hc1, hc2, hc3⟩ := hI7.buf
        have hqs1 : w6.heap.size ≤ wd.heap.size := Nat.le_of_eq hqd.size.symm
        have hqs2 : wd.heap.size ≤ w6.heap.size := Nat.le_of_eq hqd.size
        have HQH := Lib.hid hqd.heap
        refine mix_pur2 rfl (fun K hK => ?_)
        go_simp
        first | refine ⟨_, fun _ => rfl, hK _ ?_⟩ | refine hK _ ?_
        clear hK K
        refine mix_pur2 rfl (fun K hK => ?_)
        go_simp
        first | refine ⟨_, fun _ => rfl, hK _ ?_⟩ | refine hK _ ?_
        clear hK K
        refine mix_loadg2 rfl rfl (.func (.func 148) #[] #[.pointer (some ⟨sb, 0, none⟩), .pointer (some ⟨y0, 0, none⟩), .pointer (some ⟨y0 + 1, 0, none⟩)]) (by go_simp) (fun w' h => by have h : (fun w' => Blk (y0 + 1) #[.func (.func 148) #[] #[.pointer (some ⟨sb, 0, none⟩), .pointer (some ⟨y0, 0, none⟩), .pointer (some ⟨y0 + 1, 0, none⟩)]] 156 w' ∧ Blk sp #[.int .u8 (spNx x 119).1, .int .i64 (spNx x 119).2] 159 w') w' := h; have h0 := h.1.cell 0; go_simp) rfl ?_
        refine mix_pur2 rfl (fun K hK => ?_)
        go_simp
        first | refine ⟨_, fun _ => rfl, hK _ ?_⟩ | refine hK _ ?_
        clear hK K
        refine mix_pur2 rfl (fun K hK => ?_)
        go_simp
        first | refine ⟨_, fun _ => rfl, hK _ ?_⟩ | refine hK _ ?_
        clear hK K
        refine mix_loadg2 rfl rfl (.agg #[.int .u8 (spNx x 119).1, .int .i64 (spNx x 119).2]) (by go_simp) (fun w' h => by have h : (fun w' => Blk (y0 + 1) #[.func (.func 148) #[] #[.pointer (some ⟨sb, 0, none⟩), .pointer (some ⟨y0, 0, none⟩), .pointer (some ⟨y0 + 1, 0, none⟩)]] 156 w' ∧ Blk sp #[.int .u8 (spNx x 119).1, .int .i64 (spNx x 119).2] 159 w') w' := h; have h0 := h.2.cell 0; have h1 := h.2.cell 1; go_simp) rfl ?_
        refine mix_eff2 rfl false rfl (fun K hK => ?_)
        go_simp
        refine hK _ _ ⟨hI7.bg.alloc _, hsp7.alloc _⟩ ?_
        clear hK K
        refine mix_eff2 rfl false rfl (fun K hK => ?_)
        have hc6 : (wd.alloc (.cells #[.int .u8 119] 5)).heap[g]? = some (.cells cs 5 (0, 0)) := (Below.heap_alloc wd _ g hI7.glt).trans hc1
        have hu6 : (wd.alloc (.cells #[.int .u8 119] 5)).cell? ⟨wd.heap.size, 0, none⟩ = some (.int .u8 119) := (Blk.new wd _ _).cell 0
        refine step_append_room (by go_simp) (.tmp 35) (.tmp 37) 157 rfl 5 (.int .u8 0) 1 Try.underlying157 Try.info5 hc6 rfl rfl hu6 rfl (by omega) (by omega) ?_
        have ho8 : ∀ q, q < wd.heap.size → q ≠ g → ((wd.alloc (.cells #[.int .u8 119] 5)).setRow g ((cs.toList.take cur.length ++ [Value.int .u8 (119 : Int)] ++ cs.toList.drop (cur.length + 1)).toArray)).heap[q]? = wd.heap[q]? := fun q hq hne => (setRow_other _ g q _ hne).trans (Below.heap_alloc wd _ q hq)
        have hz8 : wd.heap.size ≤ ((wd.alloc (.cells #[.int .u8 119] 5)).setRow g ((cs.toList.take cur.length ++ [Value.int .u8 (119 : Int)] ++ cs.toList.drop (cur.length + 1)).toArray)).heap.size := by simp
        have hI8 : RG sb y0 g d lr s own' (cur ++ [119]) ((wd.alloc (.cells #[.int .u8 119] 5)).setRow g ((cs.toList.take cur.length ++ [Value.int .u8 (119 : Int)] ++ cs.toList.drop (cur.length + 1)).toArray)) := (hI7.step (fun q hq _ => Below.heap_alloc wd _ q hq) fun _ _ h => h).push hc6 hc2 hc3 hcl
        have hJ8 : J own' (pre ++ ((partR s k cur x 1).map strR)) ((wd.alloc (.cells #[.int .u8 119] 5)).setRow g ((cs.toList.take cur.length ++ [Value.int .u8 (119 : Int)] ++ cs.toList.drop (cur.length + 1)).toArray)) := sJ.step _ _ _ _ hJ7 ((Keep.alloc wd _).trans ⟨rfl, rfl, rfl, by simp, fun q _ hn => setRow_other _ g q _ (fun e => hn (e ▸ hI7.n3))⟩)
        generalize ((wd.alloc (.cells #[.int .u8 119] 5)).setRow g ((cs.toList.take cur.length ++ [Value.int .u8 (119 : Int)] ++ cs.toList.drop (cur.length + 1)).toArray)) = w8 at ho8 hz8 hI8 hJ8 ⊢
        refine hK _ _ ⟨hI8.bg, hsp7.keep (ho8 _ hsp7.lt (by omega))⟩ ?_
        clear hK K hc6 hu6
        refine mix_eff2 rfl true rfl (fun K hK => ?_)
        go_simp
        have hcall := HG.out own' (pre ++ ((partR s k cur x 1).map strR)) rest w8 (cur ++ [119]) (spNx x 119) hI8 hJ8 (by have := HLEN.out; rw [List.length_append, List.length_singleton]; omega) (by rw [List.length_append, List.length_singleton]; exact spNx_row hx) (by rw [HALL.out, part_rest0, if_pos hok]; simp)
        rw [List.length_append, List.length_singleton] at hcall
        refine hcall.mono ?_
        rintro e w9 ⟨own9, b9, rfl, hI9, hL9, hend⟩
        refine hK _ _ trivial ?_
        clear hK K hcall
        refine mix_pur2 rfl (fun K hK => ?_)
        go_simp
        first | refine ⟨_, fun _ => rfl, hK _ ?_⟩ | refine hK _ ?_
        clear hK K
        refine mix_pur2 rfl (fun K hK => ?_)
        go_simp
        first | refine ⟨_, fun _ => rfl, hK _ ?_⟩ | refine hK _ ?_
        clear hK K
        refine mix_done2 ?_
        have hL8 : LvR g own' own' wa w8 := ⟨by omega, fun q hq hn hne => ⟨(ho8 q (by omega) hne).trans (by rw [HQH.out]; exact hB6.block q hq), hn⟩⟩
        have hb8 : bx < w8.heap.size := by omega
        have hX9 : Blk bx #[.int .u8 x.1, .int .i64 x.2] 159 w9 := hX'.keep ((hL9.keep bx hb8 hn' (fun e => hgb e.symm)).1.trans (hL8.keep bx hba hn' (fun e => hgb e.symm)).1)
        have hn9 : ¬ own9 bx := (hL9.keep bx hb8 hn' (fun e => hgb e.symm)).2
        have hL := (hL'.trans hL8).trans hL9
        have hI10 := hI9.shorter
        clear hL8 hL9 hI9 hI8 hJ8 hI7 hJ7 hI6 hJ6 hX7 hX6 hsp hsp7 ho8 hz8
        have HOK := Lib.hid hok
        clear hok
        cases b9 with
        | true =>
          go_wp2_with fail
          go_roundw
          case rel =>
            refine ⟨2, by omega, by go_num, own9, hI10, hL, hX9, hn9, ?_⟩
            rw [part_next1, if_pos HOK.out, List.map_append, ← List.append_assoc]
            exact hend
          case measure => simp [intOf]
        | false =>
          obtain ⟨q, hq, hjx⟩ := hend
          go_wp2_with fail
          go_ret
          refine ⟨own9, false, rfl, hI10, hL1.trans hL, (partR s k cur x 1).map strR ++ q, ?_, by rw [← List.append_assoc]; exact hjx⟩
          rw [part_rest0, if_pos HOK.out]
          simp only [List.map_append]
          exact (List.prefix_append_right_inj _).2 hq
      · have hok : spOk s x 119 = false := by simpa using hok
        go_wp2_with fail
        refine (spell_c (l := 119) ⟨hx.1, by omega⟩ _).mono ?_
        rintro e w5 ⟨rfl, hB5⟩
        go_wp2_with fail
        have hB6 : Below wa.heap.size wa (w5.alloc (.cells #[.int .u8 (spNx x 119).1, .int .i64 (spNx x 119).2] 159)) := hB5.alloc hB5.size _
        have hsp : Blk w5.heap.size #[.int .u8 (spNx x 119).1, .int .i64 (spNx x 119).2] 159 (w5.alloc (.cells #[.int .u8 (spNx x 119).1, .int .i64 (spNx x 119).2] 159)) := Blk.new w5 _ _
        obtain ⟨sp, hsp0⟩ : ∃ b, b = w5.heap.size := ⟨_, rfl⟩
        rw [← hsp0] at hsp ⊢
        have hspl : wa.heap.size ≤ sp := by have := hB5.size; omega
        clear hsp0 hB5
        generalize w5.alloc (.cells #[.int .u8 (spNx x 119).1, .int .i64 (spNx x 119).2] 159) = w6 at hB6 hsp ⊢
        have hI6 : RG sb y0 g d lr s own' cur w6 := hI'.step (fun q hq _ => hB6.block q hq) fun _ _ h => h
        have hX6 := hX'.call hB6
        have hJ6 := sJ.step _ _ _ _ hJ' (Keep.call hB6)
        have hz6 := hB6.size
        have hga := hI'.glt
        have hba := hX'.lt
        clear c0 c1 c2 c3 c4
        refine wp_region_mix2 (.pur 0 (.pur 1 (.pur 2 (.pur 3 (.pur 4 (.pur 5 (.pur 6 (.pur 7 (.pur 8 (.pur 9 (.pur 10 .fin))))))))))) 99 (fun _ => True) (fun _ => True) (by kernel_rfl) (by kernel_rfl) rfl (by kernel_rfl) trivial (fun wd hqd _ => ?_)
        refine mix_pur2 rfl (fun K hK => ?_)
        go_simp
        first | refine ⟨_, fun _ => rfl, hK _ ?_⟩ | refine hK _ ?_
        clear hK K
        refine mix_pur2 rfl (fun K hK => ?_)
        go_simp
        first | refine ⟨_, fun _ => rfl, hK _ ?_⟩ | refine hK _ ?_
        clear hK K
        refine mix_pur2 rfl (fun K hK => ?_)
        go_simp
        first | refine ⟨_, fun _ => rfl, hK _ ?_⟩ | refine hK _ ?_
        clear hK K
        refine mix_pur2 rfl (fun K hK => ?_)
        go_simp
        first | refine ⟨_, fun _ => rfl, hK _ ?_⟩ | refine hK _ ?_
        clear hK K
        refine mix_pur2 rfl (fun K hK => ?_)
        go_simp
        first | refine ⟨_, fun _ => rfl, hK _ ?_⟩ | refine hK _ ?_
        clear hK K
        refine mix_pur2 rfl (fun K hK => ?_)
        go_simp
        first | refine ⟨_, fun _ => rfl, hK _ ?_⟩ | refine hK _ ?_
        clear hK K
        refine mix_pur2 rfl (fun K hK => ?_)
        go_simp
        first | refine ⟨_, fun _ => rfl, hK _ ?_⟩ | refine hK _ ?_
        clear hK K
        refine mix_pur2 rfl (fun K hK => ?_)
        go_simp
        first | refine ⟨_, fun _ => rfl, hK _ ?_⟩ | refine hK _ ?_
        clear hK K
        refine mix_pur2 rfl (fun K hK => ?_)
        go_simp
        first | refine ⟨_, fun _ => rfl, hK _ ?_⟩ | refine hK _ ?_
        clear hK K
        refine mix_pur2 rfl (fun K hK => ?_)
        go_simp
        first | refine ⟨_, fun _ => rfl, hK _ ?_⟩ | refine hK _ ?_
        clear hK K
        refine mix_pur2 rfl (fun K hK => ?_)
        go_simp
        first | refine ⟨_, fun _ => rfl, hK _ ?_⟩ | refine hK _ ?_
        clear hK K
        refine mix_done2 ?_
        have hI7 : RG sb y0 g d lr s own' cur wd := hI6.step (fun q _ _ => by rw [hqd.heap]) fun _ _ h => h
        have hX7 := hX6.call (hqd.below _)
        have hJ7 := sJ.step _ _ _ _ hJ6 (Keep.qt hqd)
        have hqs1 : w6.heap.size ≤ wd.heap.size := Nat.le_of_eq hqd.size.symm
        have hL7 : LvR g own' own' wa wd := ⟨by omega, fun q hq hn hne => ⟨by rw [hqd.heap]; exact hB6.block q hq, hn⟩⟩
        have HOK := Lib.hid hok
        clear hok hI6 hX6 hJ6 hqd
        go_wp2_with fail
        go_roundw
        case rel =>
          refine ⟨2, by omega, by go_num, own', hI7, hL'.trans hL7, hX7, hn', ?_⟩
          rw [part_next1, if_neg (by rw [HOK.out]; decide), List.append_nil]
          exact hJ7
        case measure => simp [intOf]
    · go_wp2_with fail
      go_ret
      exact ⟨own', true, rfl, hI', hL1.trans hL', hJ'⟩

end Go.Proofs.Ythchpoabncdicaa

namespace Go.Proofs.Ythchpoabncdicaa
open Go.RowKit

theorem rain_all {sb y0 g d lr : Nat} {s : Sky} {all : List Value} (hd : s.days = (d : Int)) (hd8 : d ≤ 8) {J Jx : (Nat → Prop) → List Value → World → Prop} (sJ : SideV J) (hR : RndV lr all J Jx) : ∀ k, RGOk sb y0 g d lr s all J Jx k
  | 0 => rain_leaf hd sJ hR
  | k + 1 => rain_step hd hd8 sJ (rain_all hd hd8 sJ hR k)
def rainsV (s : Sky) : List Value := (rainsF s).map strR

theorem run_make5 (n : Nat) (hn : n ≤ 1000000) (w : World) :
    (Instr.makeSlice 157 (.int .i64 0) (.int .i64 (n : Int))).run Try.prog w = .ok (.slice (some ⟨w.heap.size, 0, none⟩) 0 n) (w.alloc (.cells (List.replicate n (Value.int .u8 0)).toArray 5)) := by
  obtain ⟨i, hi, hz, hs, hb⟩ := info_parts Try.info5
  have hb' : (i.bytes : Int) * (n : Int) ≤ 281474976710656 := by rw [hb]; omega
  have hr := run_make (P := Try.prog) w 157 5 i (.int .u8 0) Try.underlying157 hi hz .i64 .i64 0 n (by omega) (by omega) hb' (by omega)
  simp only [Int.toNat_natCast] at hr
  have e : madeCells (Value.int .u8 0).cells (n * i.size) = (List.replicate n (Value.int .u8 0)).toArray := by
    apply Array.ext'
    rw [hs, Nat.mul_one]
    exact (toList_madeCells_one _ n).trans (by simp)
  rw [e] at hr
  exact hr

set_option maxRecDepth 100000 in
set_option maxHeartbeats 2000000 in
theorem rains_iter {s : Sky} (hs : s.Ok) {sb : Nat} {w : World} (hb : Blk sb #[.int .i64 s.days, .int .i64 s.drought, .int .i64 s.flood] 67 w) : IterV 147 sb (rainsV s) w := by
  intro lr J Jx own W sJ sJx hR hB hn hJ
  have hbW := hb.below hB hb.lt
  have hlt := sJ.lt own [] W hJ
  have h1 := hs.d
  have hd : s.days = ((s.days.toNat : Nat) : Int) := by omega
  have hsbl := hbW.lt
  have hmf : ∀ (fn : Fn) (first cap : Array Value) (w : World), (Instr.makeFunc fn first cap).run Try.prog w = .ok (.func fn first cap) w := fun _ _ _ _ => rfl
  have HLT := Lib.hid hlt
  have HR := Lib.hid hR
  have HD := Lib.hid hd
  clear hlt hR hd
  have hS6 : Blk sb #[.int .i64 s.days, .int .i64 s.drought, .int .i64 s.flood] 67 ((W.alloc (.cells #[.func (.yield lr) #[] #[]] 155)).alloc (.cells #[.func (.func 148) #[] #[.pointer (some ⟨sb, 0, none⟩), .pointer (some ⟨W.heap.size, 0, none⟩), .pointer (some ⟨W.heap.size + 1, 0, none⟩)]] 156)) := (hbW.alloc _).alloc _
  have hY6 : Blk W.heap.size #[.func (.yield lr) #[] #[]] 155 ((W.alloc (.cells #[.func (.yield lr) #[] #[]] 155)).alloc (.cells #[.func (.func 148) #[] #[.pointer (some ⟨sb, 0, none⟩), .pointer (some ⟨W.heap.size, 0, none⟩), .pointer (some ⟨W.heap.size + 1, 0, none⟩)]] 156)) := (blk_at rfl _ _).alloc _
  have hF6 : Blk (W.heap.size + 1) #[.func (.func 148) #[] #[.pointer (some ⟨sb, 0, none⟩), .pointer (some ⟨W.heap.size, 0, none⟩), .pointer (some ⟨W.heap.size + 1, 0, none⟩)]] 156 ((W.alloc (.cells #[.func (.yield lr) #[] #[]] 155)).alloc (.cells #[.func (.func 148) #[] #[.pointer (some ⟨sb, 0, none⟩), .pointer (some ⟨W.heap.size, 0, none⟩), .pointer (some ⟨W.heap.size + 1, 0, none⟩)]] 156)) := blk_at (by simp) _ _
  have hJ6 := sJ.step _ _ _ _ hJ ((Keep.alloc W (.cells #[.func (.yield lr) #[] #[]] 155)).trans (Keep.alloc _ (.cells #[.func (.func 148) #[] #[.pointer (some ⟨sb, 0, none⟩), .pointer (some ⟨W.heap.size, 0, none⟩), .pointer (some ⟨W.heap.size + 1, 0, none⟩)]] 156)))
  have hz6 : ((W.alloc (.cells #[.func (.yield lr) #[] #[]] 155)).alloc (.cells #[.func (.func 148) #[] #[.pointer (some ⟨sb, 0, none⟩), .pointer (some ⟨W.heap.size, 0, none⟩), .pointer (some ⟨W.heap.size + 1, 0, none⟩)]] 156)).heap.size = W.heap.size + 2 := by simp
  go_enter Try.func147, Try.ntmps147
  go_upto_region 3 with fail
  generalize ((W.alloc (.cells #[.func (.yield lr) #[] #[]] 155)).alloc (.cells #[.func (.func 148) #[] #[.pointer (some ⟨sb, 0, none⟩), .pointer (some ⟨W.heap.size, 0, none⟩), .pointer (some ⟨W.heap.size + 1, 0, none⟩)]] 156)) = w6 at *
  have HZ6 := Lib.hid hz6
  have hz7 : w6.heap.size ≤ W.heap.size + 2 := Nat.le_of_eq hz6
  have hz8 : W.heap.size + 2 ≤ w6.heap.size := Nat.le_of_eq hz6.symm
  clear hz6 hJ hbW
  refine wp_region_mix2 (.one 0 (.pur 1 (.one 2 (.pur 4 (.act 3 (.act 5 .fin)))))) 5 (fun w' => Blk (W.heap.size + 1) #[.func (.func 148) #[] #[.pointer (some ⟨sb, 0, none⟩), .pointer (some ⟨W.heap.size, 0, none⟩), .pointer (some ⟨W.heap.size + 1, 0, none⟩)]] 156 w' ∧ Blk sb #[.int .i64 s.days, .int .i64 s.drought, .int .i64 s.flood] 67 w') (fun _ => True) (by kernel_rfl) (by kernel_rfl) rfl (by kernel_rfl) ⟨hF6.call (((Qt.refl w6).drewN 1).below _), hS6.call (((Qt.refl w6).drewN 1).below _)⟩ (fun wd hqd _ => ?_)
  have hqs := Lib.hid hqd.size
  have hqs1 : W.heap.size + 2 ≤ wd.heap.size := by have := hqs.out; omega
  refine mix_load2 rfl rfl rfl (.func (.func 148) #[] #[.pointer (some ⟨sb, 0, none⟩), .pointer (some ⟨W.heap.size, 0, none⟩), .pointer (some ⟨W.heap.size + 1, 0, none⟩)]) (fun w' h => by have h : (fun w' => Blk (W.heap.size + 1) #[.func (.func 148) #[] #[.pointer (some ⟨sb, 0, none⟩), .pointer (some ⟨W.heap.size, 0, none⟩), .pointer (some ⟨W.heap.size + 1, 0, none⟩)]] 156 w' ∧ Blk sb #[.int .i64 s.days, .int .i64 s.drought, .int .i64 s.flood] 67 w') w' := h; have h0 := h.1.cell 0; go_simp) rfl ?_
  refine mix_pur2 rfl (fun K hK => ?_)
  go_simp
  first | refine ⟨_, fun _ => rfl, hK _ ?_⟩ | refine hK _ ?_
  clear hK K
  refine mix_load2 rfl rfl rfl (.int .i64 s.days) (fun w' h => by have h : (fun w' => Blk (W.heap.size + 1) #[.func (.func 148) #[] #[.pointer (some ⟨sb, 0, none⟩), .pointer (some ⟨W.heap.size, 0, none⟩), .pointer (some ⟨W.heap.size + 1, 0, none⟩)]] 156 w' ∧ Blk sb #[.int .i64 s.days, .int .i64 s.drought, .int .i64 s.flood] 67 w') w' := h; have h0 := h.2.cell 0; go_simp) rfl ?_
  refine mix_pur2 rfl (fun K hK => ?_)
  go_simp
  first | refine ⟨_, fun _ => rfl, hK _ ?_⟩ | refine hK _ ?_
  clear hK K
  refine mix_eff2 rfl false rfl (fun K hK => ?_)
  have hmk := run_make5 s.days.toNat (by omega) wd
  rw [show ((s.days.toNat : Nat) : Int) = s.days by omega] at hmk
  go_simp
  have hI7 : RG sb W.heap.size wd.heap.size s.days.toNat lr s own [] (wd.alloc (.cells (List.replicate s.days.toNat (Value.int .u8 0)).toArray 5)) := by
    refine ⟨hsbl, (hS6.call (hqd.below _)).alloc _, (hY6.call (hqd.below _)).alloc _, (hF6.call (hqd.below _)).alloc _, ⟨_, World.alloc_heap_new wd _, by simp, by simp [lettV]⟩, by omega, hn, fun h => ?_, fun h => ?_, fun h => ?_⟩
    · have := HLT.out _ h; omega
    · have := HLT.out _ h; omega
    · have := HLT.out _ h; omega
  have hJ7 := sJ.step _ _ _ _ hJ6 ((Keep.qt hqd).trans (Keep.alloc wd (.cells (List.replicate s.days.toNat (Value.int .u8 0)).toArray 5)))
  refine hK _ _ ⟨hI7.bg, hI7.bs⟩ ?_
  clear hK K hmk
  refine mix_eff2 rfl true rfl (fun K hK => ?_)
  go_simp
  have hcall := rain_all HD.out (by omega) sJ HR.out s.days.toNat own [] [] _ [] (0, 0) hI7 hJ7 (by simp) ⟨by simp, by simp⟩ (by simp [rainsV, rainsF])
  refine hcall.mono ?_
  rintro e w9 ⟨own9, b9, rfl, hI9, hL9, hend⟩
  refine hK _ _ trivial ?_
  clear hK K hcall
  refine mix_done2 ?_
  go_wp2
  go_end0
  refine ⟨⟨_, rfl⟩, ?_⟩
  cases b9 with
  | true => exact .inl ⟨own9, by simpa [rainsV, rainsF] using hend⟩
  | false =>
    obtain ⟨q, hq, hj⟩ := hend
    exact .inr ⟨own9, q, by simpa [rainsV, rainsF] using hq, by simpa using hj⟩

theorem rains_c {s : Sky} (w : World) : Calls Try.prog 139 #[(.agg #[.int .i64 s.days, .int .i64 s.drought, .int .i64 s.flood])] w fun e w' => e = .returned (.func (.func 147) #[] #[.pointer (some ⟨w.heap.size, 0, none⟩)]) ∧ w' = w.alloc (.cells #[.int .i64 s.days, .int .i64 s.drought, .int .i64 s.flood] 67) := by
  have hmf : ∀ (fn : Fn) (first cap : Array Value) (w : World), (Instr.makeFunc fn first cap).run Try.prog w = .ok (.func fn first cap) w := fun _ _ _ _ => rfl
  go_enter Try.func139, Try.ntmps139
  go_wp2
  go_ret
  exact ⟨rfl, rfl⟩

end Go.Proofs.Ythchpoabncdicaa

namespace Go.Proofs.Ythchpoabncdicaa
open Go.RowKit

theorem keep_below {B mb : Nat} {a b : World} (h : Keep (fun k => k = mb) a b) (hm : B ≤ mb) (hl : mb < a.heap.size) : Below B a b :=
  ⟨h.os, h.tape, h.output, h.size, fun k hk => h.block k (by omega) (by omega)⟩
/-- A letter of a rain. -/
theorem strR_size (r : List Nat) : (strOfNums (r.map fun n : Nat => (n : Int))).size = r.length := by rw [strOfNums_size, List.length_map]
theorem strR_at {r : List Nat} (hr : ∀ l ∈ r, l = 100 ∨ l = 119) (k : Nat) (hk : k < r.length) (w : World) :
    (Instr.index 9 (.string (strOfNums (r.map fun n : Nat => (n : Int)))) (.int .i64 (k : Int))).run Try.prog w = .ok (.int .u8 (r[k] : Int)) w := by
  have h1 : (strOfNums (r.map fun n : Nat => (n : Int))).size = r.length := strR_size r
  have h2 := hr _ (List.getElem_mem hk)
  rw [run_index_string (P := Try.prog) w 9 _ .i64 (k : Int) Try.underlying9, dif_pos (by rw [h1]; omega)]
  have h3 : ∀ (hh : (k : Int).toNat < (strOfNums (r.map fun n : Nat => (n : Int))).size), (strOfNums (r.map fun n : Nat => (n : Int)))[(k : Int).toNat] = UInt8.ofNat r[k] := by
    intro hh
    show (strOfNums (r.map fun n : Nat => (n : Int))).data[(k : Int).toNat]'_ = _
    simp [strOfNums]
  rw [h3]
  rcases h2 with h2 | h2 <;> rw [h2] <;> rfl
theorem strR_len (r : List Nat) (w : World) : (Builtin.len_ #[9] 3 #[strR r]).run Try.prog w = .ok (.int .i64 (r.length : Int)) w := by
  unfold strR
  rw [run_len_string (P := Try.prog) w 9 3 _ Try.underlying9, strR_size]
  rfl

set_option maxRecDepth 100000 in
set_option maxHeartbeats 1000000 in
theorem starved_c {A : Nat → Prop} {w : World} {p : Pas} (hp : p.Ok) {v : Value} {nh : Int} {n : Nat} (hv : Ints A w v (List.replicate n nh)) (hh : 0 ≤ nh ∧ nh ≤ 40) {r : List Nat} (hrn : r.length = n) (hrl : ∀ l ∈ r, l = 100 ∨ l = 119) :
    Calls Try.prog 140 #[(.agg #[.int .i64 p.grass, .int .i64 p.bears, .int .i64 p.dry, .int .i64 p.wet, .int .i64 p.stub, .int .i64 p.sleep]), v, strR r] w fun e w' => ∃ m : Int, e = .returned (.int .i64 m) ∧ (decide (m < 0) = fedR p nh r p.grass 0) ∧ Below w.heap.size w w' := by
  have hl := hv.len
  have hsh := hv.shape
  rw [List.length_replicate] at hl hsh
  obtain ⟨ao, cp, rfl, _, _⟩ := hsh
  have hB0 : Below w.heap.size w (w.alloc (.cells #[.int .i64 p.grass, .int .i64 p.bears, .int .i64 p.dry, .int .i64 p.wet, .int .i64 p.stub, .int .i64 p.sleep] 75)) := (Below.refl _ w).alloc (Nat.le_refl _) _
  have hx : Blk w.heap.size #[.int .i64 p.grass, .int .i64 p.bears, .int .i64 p.dry, .int .i64 p.wet, .int .i64 p.stub, .int .i64 p.sleep] 75 (w.alloc (.cells #[.int .i64 p.grass, .int .i64 p.bears, .int .i64 p.dry, .int .i64 p.wet, .int .i64 p.stub, .int .i64 p.sleep] 75)) := Blk.new w _ _
  have hv0 := hv.call hB0
  have hat : ∀ k, k < n → ∀ w', (Instr.index 9 (strR r) (.int .i64 (k : Int))).run Try.prog w' = .ok (.int .u8 (r.getD k 0 : Int)) w' := fun k hk w' => by
    have := strR_at hrl k (by omega) w'
    rw [List.getD_eq_getElem?_getD, List.getElem?_eq_getElem (by omega)]
    exact this
  have hln : ∀ w', (Builtin.len_ #[9] 3 #[strR r]).run Try.prog w' = .ok (.int .i64 (n : Int)) w' := fun w' => by rw [strR_len, hrn]
  have c0 := hx.cell 0
  have c1 := hx.cell 1
  have c2 := hx.cell 2
  have c3 := hx.cell 3
  have c4 := hx.cell 4
  have c5 := hx.cell 5
  have HAT := Lib.hid hat
  have HRN := Lib.hid hrn
  have HRL := Lib.hid hrl
  clear hat hrn hrl
  obtain ⟨sv, hsv⟩ : ∃ sv, sv = strR r := ⟨_, rfl⟩
  rw [← hsv] at hln HAT ⊢
  have HSV := Lib.hid hsv
  clear hsv
  go_enter Try.func140, Try.ntmps140
  go_wp2_with fail
  refine (begin_c _).mono ?_
  rintro e w1 ⟨mb, rfl, hmb, hM, hB1⟩
  have hM0 := hM
  have hmw : w.heap.size ≤ mb := by simp at hmb; omega
  have hB2 := bnx hB0 hB1
  clear c0 c1 c2 c3 c4 c5 hx hv0 hB0
  go_wp2_with fail
  clear hM hB1
  go_loopw [15] (fun i wr => ∃ k : Nat, k ≤ n ∧ i = .int .i64 k ∧ ∃ g a : Int, StandOk p g a ∧ Blk mb #[.int .i64 p.grass, .int .i64 p.bears, .int .i64 p.dry, .int .i64 p.wet, .int .i64 p.stub, .int .i64 p.sleep, .int .i64 g, .int .i64 a] 166 wr ∧ Below w.heap.size w wr ∧ fedR p nh r p.grass 0 = fedR p nh (r.drop k) g a) (fun i _ => n - (intOf i).toNat)
  case atStart => exact ⟨0, Nat.zero_le _, rfl, p.grass, 0, stand_start hp, hM0, hB2, rfl⟩
  case round =>
    obtain ⟨k, hk, rfl, g, a, hst, hM, hB, hf⟩ := hrel
    have HF := Lib.hid hf
    clear hf hM0
    by_cases hkn : k < n
    · have hk2 : k < (List.replicate n nh).length := by rw [List.length_replicate]; exact hkn
      obtain ⟨b, off, rfl, -, -, hc⟩ := ((hv.call hB).drewN 1).addr (Nat.lt_of_le_of_lt (Nat.zero_le k) hk2)
      have hc0 := hc k hk2
      rw [List.getElem_replicate] at hc0
      have hix := HAT.out k hkn
      have hdr : r.drop k = r.getD k 0 :: r.drop (k + 1) := by
        have hkr : k < r.length := by have := HRN.out; omega
        rw [List.drop_eq_getElem_cons hkr, List.getD_eq_getElem?_getD, List.getElem?_eq_getElem hkr]
        rfl
      obtain ⟨L, hL⟩ : ∃ L, L = r.getD k 0 := ⟨_, rfl⟩
      rw [← hL] at hix hdr
      have HDR := Lib.hid hdr
      clear hc hk2 hL hdr
      by_cases hhg : nh > g
      · have bh : decide (nh > g) = true := decide_eq_true hhg
        go_wp2_with fail
        refine wp_region_mix2 (.pur 0 (.pur 1 (.pur 2 (.pur 3 (.one 4 (.pur 5 (.pur 6 (.pur 7 (.pur 8 (.act 9 (.pur 10 (.pur 11 (.pur 12 (.pur 13 (.pur 14 .fin))))))))))))))) 9 (fun w' => w'.cell? ⟨b, off + k, none⟩ = some (.int .i64 nh) ∧ Blk mb #[.int .i64 p.grass, .int .i64 p.bears, .int .i64 p.dry, .int .i64 p.wet, .int .i64 p.stub, .int .i64 p.sleep, .int .i64 g, .int .i64 a] 166 w') (fun _ => True) (by kernel_rfl) (by kernel_rfl) rfl (by kernel_rfl) ⟨hc0, hM.call (((Qt.refl wr).drewN 1).below _)⟩ (fun wd hqd _ => ?_)
        refine mix_pur2 rfl (fun K hK => ?_)
        go_simp
        first | refine ⟨_, fun _ => rfl, hK _ ?_⟩ | refine hK _ ?_
        clear hK K
        refine mix_pur2 rfl (fun K hK => ?_)
        go_simp
        first | refine ⟨_, fun _ => rfl, hK _ ?_⟩ | refine hK _ ?_
        clear hK K
        refine mix_pur2 rfl (fun K hK => ?_)
        go_simp
        first | refine ⟨_, fun _ => rfl, hK _ ?_⟩ | refine hK _ ?_
        clear hK K
        refine mix_pur2 rfl (fun K hK => ?_)
        go_simp
        first | refine ⟨_, fun _ => rfl, hK _ ?_⟩ | refine hK _ ?_
        clear hK K
        refine mix_load2 rfl rfl rfl (.int .i64 nh) (fun w' h => by have h : (fun w' => w'.cell? ⟨b, off + k, none⟩ = some (.int .i64 nh) ∧ Blk mb #[.int .i64 p.grass, .int .i64 p.bears, .int .i64 p.dry, .int .i64 p.wet, .int .i64 p.stub, .int .i64 p.sleep, .int .i64 g, .int .i64 a] 166 w') w' := h; have h0 := h.1; go_simp) rfl ?_
        refine mix_pur2 rfl (fun K hK => ?_)
        go_simp
        first | refine ⟨_, fun _ => rfl, hK _ ?_⟩ | refine hK _ ?_
        clear hK K
        refine mix_pur2 rfl (fun K hK => ?_)
        go_simp
        first | refine ⟨_, fun _ => rfl, hK _ ?_⟩ | refine hK _ ?_
        clear hK K
        refine mix_pur2 rfl (fun K hK => ?_)
        go_simp
        first | refine ⟨_, fun _ => rfl, hK _ ?_⟩ | refine hK _ ?_
        clear hK K
        refine mix_pur2 rfl (fun K hK => ?_)
        go_simp
        first | refine ⟨_, fun _ => rfl, hK _ ?_⟩ | refine hK _ ?_
        clear hK K
        refine mix_eff2 rfl true rfl (fun K hK => ?_)
        go_simp
        refine (day_c (hM.call (hqd.below _)) hp (by have := hst.g; have := hp.b; omega) (by have := hst.a; have := hp.sl; omega) hh _).mono ?_
        rintro e w7 ⟨rfl, hM7, hK7⟩
        refine hK _ _ trivial ?_
        clear hK K
        refine mix_pur2 rfl (fun K hK => ?_)
        go_simp
        first | refine ⟨_, fun _ => rfl, hK _ ?_⟩ | refine hK _ ?_
        clear hK K
        refine mix_pur2 rfl (fun K hK => ?_)
        go_simp
        first | refine ⟨_, fun _ => rfl, hK _ ?_⟩ | refine hK _ ?_
        clear hK K
        refine mix_pur2 rfl (fun K hK => ?_)
        go_simp
        first | refine ⟨_, fun _ => rfl, hK _ ?_⟩ | refine hK _ ?_
        clear hK K
        refine mix_pur2 rfl (fun K hK => ?_)
        go_simp
        first | refine ⟨_, fun _ => rfl, hK _ ?_⟩ | refine hK _ ?_
        clear hK K
        refine mix_pur2 rfl (fun K hK => ?_)
        go_simp
        first | refine ⟨_, fun _ => rfl, hK _ ?_⟩ | refine hK _ ?_
        clear hK K
        refine mix_done2 ?_
        go_wp2_with fail
        go_ret
        refine ⟨k, rfl, ?_, (hB.trans (hqd.below _)).trans (keep_below hK7 hmw (hM.call (hqd.below _)).lt)⟩
        rw [HF.out, HDR.out, fedR, if_pos hhg]
        exact decide_eq_false (by omega)
      · have bh : decide (nh > g) = false := decide_eq_false hhg
        go_wp2_with fail
        refine wp_region_mix2 (.pur 0 (.pur 1 (.pur 2 (.pur 3 (.one 4 (.pur 5 (.pur 6 (.pur 7 (.pur 8 (.act 9 (.pur 10 (.pur 11 (.pur 12 (.pur 13 (.pur 14 .fin))))))))))))))) 9 (fun w' => w'.cell? ⟨b, off + k, none⟩ = some (.int .i64 nh) ∧ Blk mb #[.int .i64 p.grass, .int .i64 p.bears, .int .i64 p.dry, .int .i64 p.wet, .int .i64 p.stub, .int .i64 p.sleep, .int .i64 g, .int .i64 a] 166 w') (fun _ => True) (by kernel_rfl) (by kernel_rfl) rfl (by kernel_rfl) ⟨hc0, hM.call (((Qt.refl wr).drewN 1).below _)⟩ (fun wd hqd _ => ?_)
        refine mix_pur2 rfl (fun K hK => ?_)
        go_simp
        first | refine ⟨_, fun _ => rfl, hK _ ?_⟩ | refine hK _ ?_
        clear hK K
        refine mix_pur2 rfl (fun K hK => ?_)
        go_simp
        first | refine ⟨_, fun _ => rfl, hK _ ?_⟩ | refine hK _ ?_
        clear hK K
        refine mix_pur2 rfl (fun K hK => ?_)
        go_simp
        first | refine ⟨_, fun _ => rfl, hK _ ?_⟩ | refine hK _ ?_
        clear hK K
        refine mix_pur2 rfl (fun K hK => ?_)
        go_simp
        first | refine ⟨_, fun _ => rfl, hK _ ?_⟩ | refine hK _ ?_
        clear hK K
        refine mix_load2 rfl rfl rfl (.int .i64 nh) (fun w' h => by have h : (fun w' => w'.cell? ⟨b, off + k, none⟩ = some (.int .i64 nh) ∧ Blk mb #[.int .i64 p.grass, .int .i64 p.bears, .int .i64 p.dry, .int .i64 p.wet, .int .i64 p.stub, .int .i64 p.sleep, .int .i64 g, .int .i64 a] 166 w') w' := h; have h0 := h.1; go_simp) rfl ?_
        refine mix_pur2 rfl (fun K hK => ?_)
        go_simp
        first | refine ⟨_, fun _ => rfl, hK _ ?_⟩ | refine hK _ ?_
        clear hK K
        refine mix_pur2 rfl (fun K hK => ?_)
        go_simp
        first | refine ⟨_, fun _ => rfl, hK _ ?_⟩ | refine hK _ ?_
        clear hK K
        refine mix_pur2 rfl (fun K hK => ?_)
        go_simp
        first | refine ⟨_, fun _ => rfl, hK _ ?_⟩ | refine hK _ ?_
        clear hK K
        refine mix_pur2 rfl (fun K hK => ?_)
        go_simp
        first | refine ⟨_, fun _ => rfl, hK _ ?_⟩ | refine hK _ ?_
        clear hK K
        refine mix_eff2 rfl true rfl (fun K hK => ?_)
        go_simp
        refine (day_c (hM.call (hqd.below _)) hp (by have := hst.g; have := hp.b; omega) (by have := hst.a; have := hp.sl; omega) hh _).mono ?_
        rintro e w7 ⟨rfl, hM7, hK7⟩
        refine hK _ _ trivial ?_
        clear hK K
        refine mix_pur2 rfl (fun K hK => ?_)
        go_simp
        first | refine ⟨_, fun _ => rfl, hK _ ?_⟩ | refine hK _ ?_
        clear hK K
        refine mix_pur2 rfl (fun K hK => ?_)
        go_simp
        first | refine ⟨_, fun _ => rfl, hK _ ?_⟩ | refine hK _ ?_
        clear hK K
        refine mix_pur2 rfl (fun K hK => ?_)
        go_simp
        first | refine ⟨_, fun _ => rfl, hK _ ?_⟩ | refine hK _ ?_
        clear hK K
        refine mix_pur2 rfl (fun K hK => ?_)
        go_simp
        first | refine ⟨_, fun _ => rfl, hK _ ?_⟩ | refine hK _ ?_
        clear hK K
        refine mix_pur2 rfl (fun K hK => ?_)
        go_simp
        first | refine ⟨_, fun _ => rfl, hK _ ?_⟩ | refine hK _ ?_
        clear hK K
        refine mix_done2 ?_
        have hB7 : Below w.heap.size w w7 := (hB.trans (hqd.below _)).trans (keep_below hK7 hmw (hM.call (hqd.below _)).lt)
        go_wp2_with fail
        go_roundw
        case rel =>
          refine ⟨k + 1, by omega, by go_num, _, _, stand_next hp (wet := L == 119) hst hh.1, ?_, hB7, ?_⟩
          · rwa [show (((L : Nat) : Int) == 119) = (L == 119) by rw [Bool.eq_iff_iff]; simp; omega] at hM7
          · rw [HF.out, HDR.out, fedR, if_neg (by have := of_decide_eq_false bh; exact this)]
        case measure => simp [intOf]; omega
    · obtain rfl : k = n := by omega
      go_wp2_with fail
      go_ret
      refine ⟨-1, rfl, ?_, hB⟩
      rw [HF.out, List.drop_eq_nil_of_le (by have := HRN.out; omega)]
      rfl

end Go.Proofs.Ythchpoabncdicaa

namespace Go.Proofs.Ythchpoabncdicaa
open Go.RowKit

/-- What stands between the rounds of a range: the world before it but for some cells, and a fact on these. -/
structure RI (w0 : World) (nb : Nat) (F : Nat → Prop) (G : List Value → World → Prop) (own : Nat → Prop) (pre : List Value) (W : World) : Prop where
  keep : Keep (fun k => k = nb ∨ F k) w0 W
  low : ∀ k, k < w0.heap.size → k ≠ nb → own k
  lt : ∀ k, own k → k < W.heap.size
  g : G pre W
theorem RI.side {w0 : World} {nb : Nat} {F : Nat → Prop} {G : List Value → World → Prop} (hF : ∀ k, F k → k < w0.heap.size ∧ k ≠ nb) (hG : ∀ pre W W', G pre W → W.heap.size ≤ W'.heap.size → (∀ k, F k → W'.heap[k]? = W.heap[k]?) → G pre W') : SideV (RI w0 nb F G) := by
  refine ⟨fun own pre W h => h.lt, fun own pre W W' h hk => ?_⟩
  have ho : ∀ k, own k → W'.heap[k]? = W.heap[k]? := fun k hko => hk.block k (h.lt k hko) (fun hn => hn hko)
  refine ⟨⟨hk.os.trans h.keep.os, hk.tape.trans h.keep.tape, hk.output.trans h.keep.output, Nat.le_trans h.keep.size hk.size, fun k hkw hn => ?_⟩, h.low, fun k hko => Nat.lt_of_lt_of_le (h.lt k hko) hk.size, hG _ _ _ h.g hk.size fun k hf => ho k (h.low k (hF k hf).1 (hF k hf).2)⟩
  exact (ho k (h.low k hkw (fun e => hn (.inl e)))).trans (h.keep.block k hkw hn)
theorem RI.next {w0 : World} {nb : Nat} {F : Nat → Prop} {G G' : List Value → World → Prop} (hF : ∀ k, F k → k < w0.heap.size ∧ k ≠ nb) {own : Nat → Prop} {pre pre' : List Value} {W W' : World} (h : RI w0 nb F G own pre W) (hk : Keep F W W') (hg : G' pre' W') : Keep own W W' ∧ RI w0 nb F G' own pre' W' := by
  refine ⟨hk.mono fun k _ hf => h.low k (hF k hf).1 (hF k hf).2, ?_, h.low, fun k hko => Nat.lt_of_lt_of_le (h.lt k hko) hk.size, hg⟩
  exact ⟨hk.os.trans h.keep.os, hk.tape.trans h.keep.tape, hk.output.trans h.keep.output, Nat.le_trans h.keep.size hk.size, fun k hkw hn => (hk.block k (Nat.lt_of_lt_of_le hkw h.keep.size) (fun hf => hn (.inr hf))).trans (h.keep.block k hkw hn)⟩

theorem map_prefix_snoc {α β : Type} {f : α → β} {rs L : List α} {v : β} (h1 : rs <+: L) (h2 : rs.map f ++ [v] <+: L.map f) : ∃ r, r ∈ L ∧ v = f r ∧ rs ++ [r] <+: L := by
  obtain ⟨t, rfl⟩ := h1
  rw [List.map_append] at h2
  obtain ⟨u, hu⟩ := h2
  rw [List.append_assoc] at hu
  have hu := List.append_cancel_left hu
  cases t with
  | nil => simp at hu
  | cons r t =>
    simp only [List.map_cons, List.singleton_append] at hu
    injection hu with e1 e2
    exact ⟨r, by simp, e1, ⟨t, by simp⟩⟩
theorem prefix_map_all {α β : Type} {f : α → β} {rs L : List α} (h1 : rs <+: L) (h2 : rs.map f = L.map f) : rs = L := by
  have := congrArg List.length h2
  rw [List.length_map, List.length_map] at this
  exact h1.eq_of_length this

set_option maxRecDepth 100000 in
set_option maxHeartbeats 1000000 in
theorem gchecked_c {A : Nat → Prop} {w : World} {p : Pas} {s : Sky} (hp : p.Ok) (hs : s.Ok) {v : Value} {nh : Int} {n : Nat} (hn : s.days = (n : Int)) (hv : Ints A w v (List.replicate n nh)) (hh : 0 ≤ nh ∧ nh ≤ 40) :
    Calls Try.prog 138 #[(.agg #[.int .i64 p.grass, .int .i64 p.bears, .int .i64 p.dry, .int .i64 p.wet, .int .i64 p.stub, .int .i64 p.sleep]), v, (.agg #[.int .i64 s.days, .int .i64 s.drought, .int .i64 s.flood])] w fun e w' => e = .returned (.int .i64 0) ∧ Below w.heap.size w w' := by
  have hsh := hv.shape
  rw [List.length_replicate] at hsh
  obtain ⟨ao, cp, rfl, _, _⟩ := hsh
  obtain ⟨wq, hwq⟩ : ∃ wq, wq = ((w.alloc (.cells #[.int .i64 p.grass, .int .i64 p.bears, .int .i64 p.dry, .int .i64 p.wet, .int .i64 p.stub, .int .i64 p.sleep] 75)).alloc (.cells #[.int .i64 s.days, .int .i64 s.drought, .int .i64 s.flood] 67)) := ⟨_, rfl⟩
  obtain ⟨b0, hb0⟩ : ∃ b, b = w.heap.size := ⟨_, rfl⟩
  obtain ⟨b1, hb1⟩ : ∃ b, b = w.heap.size + 1 := ⟨_, rfl⟩
  have hPb : Blk b0 #[.int .i64 p.grass, .int .i64 p.bears, .int .i64 p.dry, .int .i64 p.wet, .int .i64 p.stub, .int .i64 p.sleep] 75 wq := by rw [hwq, hb0]; exact (blk_at rfl _ _).alloc _
  have hSb : Blk b1 #[.int .i64 s.days, .int .i64 s.drought, .int .i64 s.flood] 67 wq := by rw [hwq, hb1]; exact blk_at (by simp) _ _
  have hBq : Below w.heap.size w wq := by rw [hwq]; exact ((Below.refl _ w).alloc (Nat.le_refl _) _).alloc (by simp) _
  have HN := Lib.hid hn
  clear hn
  go_enter Try.func138, Try.ntmps138
  go_upto_region 1 with fail
  rw [← hwq, ← hb1, ← hb0]
  clear hwq hb1 hb0
  refine wp_region_mix2 (.one 0 (.one 2 (.act 1 (.act 3 (.act 4 (.act 5 (.pur 6 .fin))))))) 99 (fun w' => Blk b0 #[.int .i64 p.grass, .int .i64 p.bears, .int .i64 p.dry, .int .i64 p.wet, .int .i64 p.stub, .int .i64 p.sleep] 75 w' ∧ Blk b1 #[.int .i64 s.days, .int .i64 s.drought, .int .i64 s.flood] 67 w') (fun _ => True) (by kernel_rfl) (by kernel_rfl) rfl (by kernel_rfl) ⟨hPb.call (((Qt.refl wq).drewN 1).below _), hSb.call (((Qt.refl wq).drewN 1).below _)⟩ (fun wd hqd _ => ?_)
  refine mix_load2 rfl rfl rfl (.agg #[.int .i64 p.grass, .int .i64 p.bears, .int .i64 p.dry, .int .i64 p.wet, .int .i64 p.stub, .int .i64 p.sleep]) (fun w' h => by have h : (fun w' => Blk b0 #[.int .i64 p.grass, .int .i64 p.bears, .int .i64 p.dry, .int .i64 p.wet, .int .i64 p.stub, .int .i64 p.sleep] 75 w' ∧ Blk b1 #[.int .i64 s.days, .int .i64 s.drought, .int .i64 s.flood] 67 w') w' := h; have h0 := h.1.cell 0; have h1 := h.1.cell 1; have h2 := h.1.cell 2; have h3 := h.1.cell 3; have h4 := h.1.cell 4; have h5 := h.1.cell 5; go_simp) rfl ?_
  refine mix_load2 rfl rfl rfl (.agg #[.int .i64 s.days, .int .i64 s.drought, .int .i64 s.flood]) (fun w' h => by have h : (fun w' => Blk b0 #[.int .i64 p.grass, .int .i64 p.bears, .int .i64 p.dry, .int .i64 p.wet, .int .i64 p.stub, .int .i64 p.sleep] 75 w' ∧ Blk b1 #[.int .i64 s.days, .int .i64 s.drought, .int .i64 s.flood] 67 w') w' := h; have h0 := h.2.cell 0; have h1 := h.2.cell 1; have h2 := h.2.cell 2; go_simp) rfl ?_
  refine mix_eff2 rfl false rfl (fun K hK => ?_)
  go_simp
  refine (gcheck_c hp _).mono ?_
  rintro e w3 ⟨rfl, hB3⟩
  have hB3 := bnx (hqd.below wq.heap.size) hB3
  refine hK _ _ ⟨hPb.call hB3, hSb.call hB3⟩ ?_
  clear hK K
  refine mix_eff2 rfl false rfl (fun K hK => ?_)
  go_simp
  refine (gsky_c hs _).mono ?_
  rintro e w4 ⟨rfl, hB4⟩
  have hB4 := bnx hB3 hB4
  refine hK _ _ ⟨hPb.call hB4, hSb.call hB4⟩ ?_
  clear hK K
  refine mix_eff2 rfl false rfl (fun K hK => ?_)
  go_simp
  have hB5 := bnx hB4 ((Below.refl w4.heap.size w4).alloc (Nat.le_refl _) (.cells #[.int .i64 0, .int .i64 0] 37))
  have hL5 : Ints (fun k => k = w4.heap.size) (w4.alloc (.cells #[.int .i64 0, .int .i64 0] 37)) (.slice (some ⟨w4.heap.size, 0, none⟩) 2 2) [0, 0] := ⟨_, 2, rfl, by decide, ⟨by unfold maxLen; omega, by simp⟩, .inr ⟨_, 0, rfl, rfl, by simp, fun j u hj => by
    rw [Nat.zero_add]
    have hb := Blk.new w4 #[.int .i64 0, .int .i64 0] 37
    rw [hb.cell j]
    rcases j with _ | _ | j
    · simpa [I64] using hj
    · simpa [I64] using hj
    · simp [I64] at hj⟩⟩
  refine hK _ _ ⟨hPb.call hB5, hSb.call hB5⟩ ?_
  clear hK K
  generalize w4.alloc (.cells #[.int .i64 0, .int .i64 0] 37) = w5 at hB5 hL5 ⊢
  refine mix_eff2 rfl false rfl (fun K hK => ?_)
  go_simp
  refine (gfirst_c hL5).mono ?_
  rintro e w6 ⟨rfl, hq6⟩
  have hB6 := bnx hB5 (hq6.below _)
  refine hK _ _ ⟨hPb.call hB6, hSb.call hB6⟩ ?_
  clear hK K
  refine mix_pur2 rfl (fun K hK => ?_)
  go_simp
  first | refine ⟨_, fun _ => rfl, hK _ ?_⟩ | refine hK _ ?_
  clear hK K
  refine mix_done2 ?_
  have hSb6 := hSb.call hB6
  have hv6 := hv.call (bnx hBq hB6)
  have c0 : w6.cell? ⟨b1, 0, none⟩ = some (.int .i64 (n : Int)) := by rw [← HN.out]; exact hSb6.cell 0
  go_wp2_with fail
  refine (hungry_c hv6 hh).mono ?_
  rintro e w7 ⟨rfl, hq7⟩
  go_wp2_with fail
  go_ret
  exact ⟨rfl, bnx (bnx hBq hB6) (hq7.below _)⟩

end Go.Proofs.Ythchpoabncdicaa

namespace Go.Proofs.Ythchpoabncdicaa
open Go.RowKit
attribute [local go_sem] Oper.semAt_some

/-- What Feeds keeps between the rains. -/
def FG (p : Pas) (s : Sky) (nh : Int) (b1 b2 : Nat) (pre : List Value) (W : World) : Prop :=
  ∃ (rs : List (List Nat)) (f : Bool), pre = rs.map strR ∧ rs <+: rainsF s ∧ Blk b1 #[.bool f] 4 W ∧ Blk b2 #[.bool (!(rs.all fun r => fedR p nh r p.grass 0))] 4 W

set_option maxRecDepth 100000 in
set_option maxHeartbeats 1000000 in
theorem feeds_c {A : Nat → Prop} {w : World} {p : Pas} {s : Sky} (hp : p.Ok) (hs : s.Ok) {v : Value} {nh : Int} {n : Nat} (hn : s.days = (n : Int)) (hv : Ints A w v (List.replicate n nh)) (hh : 0 ≤ nh ∧ nh ≤ 40) :
    Calls Try.prog 107 #[(.agg #[.int .i64 p.grass, .int .i64 p.bears, .int .i64 p.dry, .int .i64 p.wet, .int .i64 p.stub, .int .i64 p.sleep]), v, (.agg #[.int .i64 s.days, .int .i64 s.drought, .int .i64 s.flood])] w fun e w' => ∃ m : Int, e = .returned (.tuple #[.int .i64 m, .int .i64 0]) ∧ (decide (m = 1) = fedAll p s nh) ∧ Below w.heap.size w w' := by
  have hsh := hv.shape
  rw [List.length_replicate] at hsh
  obtain ⟨ao, cp, rfl, _, _⟩ := hsh
  obtain ⟨w3, hw3⟩ : ∃ w3, w3 = (((w.alloc (.cells #[.int .i64 p.grass, .int .i64 p.bears, .int .i64 p.dry, .int .i64 p.wet, .int .i64 p.stub, .int .i64 p.sleep] 75)).alloc (.cells #[.slice ao n cp] 22)).alloc (.cells #[.int .i64 s.days, .int .i64 s.drought, .int .i64 s.flood] 67)) := ⟨_, rfl⟩
  obtain ⟨b0, hb0⟩ : ∃ b, b = w.heap.size := ⟨_, rfl⟩
  have hPb : Blk b0 #[.int .i64 p.grass, .int .i64 p.bears, .int .i64 p.dry, .int .i64 p.wet, .int .i64 p.stub, .int .i64 p.sleep] 75 w3 := by rw [hw3, hb0]; exact ((blk_at rfl _ _).alloc _).alloc _
  have hHb : Blk (b0 + 1) #[.slice ao n cp] 22 w3 := by rw [hw3, hb0]; exact (blk_at (by simp) _ _).alloc _
  have hSb : Blk (b0 + 1 + 1) #[.int .i64 s.days, .int .i64 s.drought, .int .i64 s.flood] 67 w3 := by rw [hw3, hb0]; exact blk_at (by simp) _ _
  have hB3 : Below w.heap.size w w3 := by rw [hw3]; exact (((Below.refl _ w).alloc (Nat.le_refl _) _).alloc (by simp) _).alloc (by simp; omega) _
  have hv3 := hv.call hB3
  have hck := gchecked_c (A := A) hp hs hn hv3 hh
  have hmf : ∀ (fn : Fn) (first cap : Array Value) (w : World), (Instr.makeFunc fn first cap).run Try.prog w = .ok (.func fn first cap) w := fun _ _ _ _ => rfl
  have HN := Lib.hid hn
  have HCK := Lib.hid hck
  have b0w : w.heap.size ≤ b0 := by omega
  clear hn hck
  have c0 := hPb.cell 0
  have c1 := hPb.cell 1
  have c2 := hPb.cell 2
  have c3 := hPb.cell 3
  have c4 := hPb.cell 4
  have c5 := hPb.cell 5
  have c6 := hHb.cell 0
  have c7 := hSb.cell 0
  have c8 := hSb.cell 1
  have c9 := hSb.cell 2
  refine (callsIn_wide (n := 9)).1 (callsIn_of_wp_marks Try.func107 rfl trivial (wpIn_wide.2 ?_))
  simp only [Try.ntmps107, List.size_toArray, List.length_cons, List.length_nil, Nat.reduceAdd, Nat.reduceSub, Array.replicate_succ, Array.replicate_zero, List.push_toArray, List.append_toArray, List.nil_append, List.cons_append]
  go_upto_region 1 with fail
  rw [← hw3, ← hb0]
  clear hw3 hb0
  go_wp2_with fail
  refine HCK.out.mono ?_
  rintro e w4 ⟨rfl, hB4⟩
  have hPb4 := hPb.call hB4
  have hHb4 := hHb.call hB4
  have hSb4 := hSb.call hB4
  have hv4 := hv3.call hB4
  have hB4' := bnx hB3 hB4
  clear c0 c1 c2 c3 c4 c5 c6 c7 c8 c9 HCK hPb hHb hSb hv3 hB3 hB4
  go_upto_region 5 with fail
  obtain ⟨w5, hw5⟩ : ∃ w5, w5 = ((w4.alloc (.cells #[.bool false] 4)).alloc (.cells #[.bool false] 4)) := ⟨_, rfl⟩
  obtain ⟨b1, hb1⟩ : ∃ b, b = w4.heap.size := ⟨_, rfl⟩
  have hF1 : Blk b1 #[.bool false] 4 w5 := by rw [hw5, hb1]; exact (blk_at rfl _ _).alloc _
  have hF2 : Blk (b1 + 1) #[.bool false] 4 w5 := by rw [hw5, hb1]; exact blk_at (by simp) _ _
  have hB5 : Below w4.heap.size w4 w5 := by rw [hw5]; exact ((Below.refl _ w4).alloc (Nat.le_refl _) _).alloc (by simp) _
  rw [← hw5, ← hb1]
  have hz5 : w5.heap.size = b1 + 2 := by rw [hw5, hb1]; simp
  have h0b : b0 + 1 + 1 < b1 := by rw [hb1]; exact hSb4.lt
  have hPb5 := hPb4.call hB5
  have hHb5 := hHb4.call hB5
  have hSb5 := hSb4.call hB5
  have hv5 := hv4.call hB5
  have hB5' := bnx hB4' hB5
  have HZ5 := Lib.hid hz5
  clear hw5 hb1 hPb4 hHb4 hSb4 hv4 hB4' hB5 hz5
  have c7 := hSb5.cell 0
  have c8 := hSb5.cell 1
  have c9 := hSb5.cell 2
  go_wp2_with (go_at_call 139; refine (rains_c _).mono ?_; rintro e w6 ⟨rfl, hw6⟩)
  clear c7 c8 c9
  obtain ⟨W0, hW0⟩ : ∃ W0, W0 = w5.alloc (.cells #[.int .i64 s.days, .int .i64 s.drought, .int .i64 s.flood] 67) := ⟨_, rfl⟩
  obtain ⟨nb, hnb⟩ : ∃ nb, nb = w5.heap.size := ⟨_, rfl⟩
  have hNb : Blk nb #[.int .i64 s.days, .int .i64 s.drought, .int .i64 s.flood] 67 W0 := by rw [hW0, hnb]; exact blk_at rfl _ _
  have hzz : nb = b1 + 2 := by rw [hnb]; exact HZ5.out
  have hW0z : W0.heap.size = nb + 1 := by rw [hW0, hnb]; simp
  rw [← hW0, ← hnb]
  have hB0 : Below w5.heap.size w5 W0 := by rw [hW0]; exact (Below.refl _ w5).alloc (Nat.le_refl _) _
  have hPb0 := hPb5.call hB0
  have hHb0 := hHb5.call hB0
  have hF1 := hF1.call hB0
  have hF2 := hF2.call hB0
  have hBw := bnx hB5' hB0
  have HZZ := Lib.hid hzz
  have hz1 : nb ≤ b1 + 2 := Nat.le_of_eq hzz
  have hz2 : b1 + 2 ≤ nb := Nat.le_of_eq hzz.symm
  have hz3 : W0.heap.size ≤ nb + 1 := Nat.le_of_eq hW0z
  have hz4 : nb + 1 ≤ W0.heap.size := Nat.le_of_eq hW0z.symm
  have hv0 := hv.call hBw
  have hwz := hBw.size
  clear hW0 hnb hzz hW0z hPb5 hHb5 hSb5 hv5 hB5' hB0
  have hF : ∀ k, (k = b1 ∨ k = b1 + 1) → k < W0.heap.size ∧ k ≠ nb := fun k h => by omega
  have hG : ∀ pre (W W' : World), FG p s nh b1 (b1 + 1) pre W → W.heap.size ≤ W'.heap.size → (∀ k, (k = b1 ∨ k = b1 + 1) → W'.heap[k]? = W.heap[k]?) → FG p s nh b1 (b1 + 1) pre W' :=
    fun pre W W' ⟨rs, f, h1, h2, h3, h4⟩ _ hk => ⟨rs, f, h1, h2, h3.keep (hk _ (.inl rfl)), h4.keep (hk _ (.inr rfl))⟩
  have hI0 : RI W0 nb (fun k => k = b1 ∨ k = b1 + 1) (FG p s nh b1 (b1 + 1)) (fun k => k < W0.heap.size ∧ k ≠ nb) [] W0 :=
    ⟨Keep.refl _ _, fun k h1 h2 => ⟨h1, h2⟩, fun k h => h.1, [], false, rfl, List.nil_prefix .., hF1, hF2⟩
  clear hF1 hF2
  have hfn : ∀ args w, (callFunc 147 args).run Try.prog w = .ok (.enter 147 args) w := fun args w => by go_simp
  refine wp_rangeV (f := 147) (nb := nb) (all := rainsV s) (a₁ := ?a1) rfl rfl hfn hNb.lt (rains_iter hs hNb) (RI W0 nb (fun k => k = b1 ∨ k = b1 + 1) (FG p s nh b1 (b1 + 1))) (fun _ _ _ _ => False) (RI.side hF hG) (fun _ => ⟨fun _ _ _ h => h.elim, fun _ _ _ _ h _ => h⟩) (fun h => h.2 rfl) hI0 ?assign ?body ?done ?stop
  case assign =>
    intro l v W K hK
    gi_wp2
    exact hK
  case body =>
    intro l own pre v W h1 hI hoh hh1 hpre
    refine wpIn_block ?_
    obtain ⟨rs, f, rfl, hrs, hf1, hf2⟩ := hI.g
    obtain ⟨r, hrm, rfl, hrp⟩ := map_prefix_snoc hrs hpre
    obtain ⟨hrl, hrL⟩ := mem_rainsF hrm
    have hrl2 : r.length = n := by rw [hrl, HN.out]; rfl
    have hPW : Blk b0 #[.int .i64 p.grass, .int .i64 p.bears, .int .i64 p.dry, .int .i64 p.wet, .int .i64 p.stub, .int .i64 p.sleep] 75 W := hPb0.keep (hI.keep.block b0 (by omega) (by omega))
    have hHW : Blk (b0 + 1) #[.slice ao n cp] 22 W := hHb0.keep (hI.keep.block (b0 + 1) (by omega) (by omega))
    have hvW : Ints A W (.slice ao n cp) (List.replicate n nh) := hv.step (Nat.le_trans hwz hI.keep.size) fun k hk hl => (hI.keep.block k (by omega) (by omega)).trans (hBw.block k hl)
    have hst := starved_c hp hvW hh hrl2 hrL
    have HST := Lib.hid hst
    have HRP := Lib.hid hrp
    have c0 := hPW.cell 0
    have c1 := hPW.cell 1
    have c2 := hPW.cell 2
    have c3 := hPW.cell 3
    have c4 := hPW.cell 4
    have c5 := hPW.cell 5
    have c6 := hHW.cell 0
    clear hst hrl hrl2 hrL hrp hpre hrm
    gi_wp2_with fail
    refine ⟨trivial, CallsIn.mono (CallsIn.inRound _ (callsIn_wide.2 HST.out)) ?_⟩
    rintro e W4 ⟨m, rfl, hm, hB4⟩
    have g1 := hf1.call hB4
    have g2 := hf2.call hB4
    clear HST c0 c1 c2 c3 c4 c5 c6 hPW hHW hvW
    have HM := Lib.hid hm
    clear hm
    by_cases hm0 : m < 0
    · have bm : decide (m < 0) = true := decide_eq_true hm0
      have y0 := g1.cell 0
      have y1 := g1.free 0
      gi_wp2_with fail
      have hfed : fedR p nh r p.grass 0 = true := by rw [← HM.out]; exact decide_eq_true hm0
      obtain ⟨k1, k2⟩ := RI.next (G' := FG p s nh b1 (b1 + 1)) hF hI (pre' := (rs ++ [r]).map strR) (W' := W4.setCell ⟨b1, 0, none⟩ (.bool true)) ((Keep.call hB4).trans (Keep.setCell _ ⟨b1, 0, none⟩ _ (.inl rfl))) ⟨rs ++ [r], true, rfl, HRP.out, by simpa using g1.set 0 (.bool true), by
        have := g2.other (a := ⟨b1, 0, none⟩) (by simp) (.bool true)
        simpa [hfed] using this⟩
      rw [List.map_append] at k2
      exact ⟨own, fun k _ h => h, k1, k2⟩
    · have bm : decide (m < 0) = false := decide_eq_false hm0
      have y0 := g2.cell 0
      have y1 := g2.free 0
      gi_wp2_with fail
      have hfed : fedR p nh r p.grass 0 = false := by rw [← HM.out]; exact bm
      obtain ⟨k1, k2⟩ := RI.next (G' := FG p s nh b1 (b1 + 1)) hF hI (pre' := (rs ++ [r]).map strR) (W' := W4.setCell ⟨b1 + 1, 0, none⟩ (.bool true)) ((Keep.call hB4).trans (Keep.setCell _ ⟨b1 + 1, 0, none⟩ _ (.inr rfl))) ⟨rs ++ [r], f, rfl, HRP.out, g1.other (a := ⟨b1 + 1, 0, none⟩) (by simp) _, by
        have := g2.set 0 (.bool true)
        simpa [hfed] using this⟩
      rw [List.map_append] at k2
      exact ⟨own, fun k _ h => h, k1, k2⟩
  case done =>
    intro D own W hI hD hDl hDo
    obtain ⟨rs, f, hrs, hrp, hf1, hf2⟩ := hI.g
    obtain rfl := prefix_map_all hrp hrs.symm
    have hb2 : Blk (b1 + 1) #[.bool (!(fedAll p s nh))] 4 W := hf2
    have hBW : Below w.heap.size w W := hBw.trans ⟨hI.keep.os, hI.keep.tape, hI.keep.output, hI.keep.size, fun k hk => hI.keep.block k (by omega) (by omega)⟩
    have hBE : Below w.heap.size w (W.putObj D (.deferred none)) := hBW.trans ⟨rfl, rfl, rfl, by simp, fun k hk => World.putObj_heap_other (by omega)⟩
    have y0 := hf1.cell 0
    have y1 := hb2.cell 0
    clear hrs hrp hf2 hI0 hv0 hI hPb0 hHb0 hBw
    obtain ⟨fd, hfd⟩ : ∃ fd, fd = fedAll p s nh := ⟨_, rfl⟩
    rw [← hfd] at y1
    have HFD := Lib.hid hfd
    clear hfd hb2
    cases fd with
    | true =>
      go_wp2_with fail
      refine ⟨by simp, .inl ⟨_, _, rfl, run_takeDeferred hD, ?_⟩⟩
      exact ⟨_, results_tmp2 rfl _ _ _, 1, rfl, by rw [← HFD.out]; rfl, hBE⟩
    | false =>
      cases f with
      | true =>
        go_wp2_with fail
        refine ⟨by simp, .inl ⟨_, _, rfl, run_takeDeferred hD, ?_⟩⟩
        exact ⟨_, results_tmp2 rfl _ _ _, 3, rfl, by rw [← HFD.out]; rfl, hBE⟩
      | false =>
        go_wp2_with fail
        refine ⟨by simp, .inl ⟨_, _, rfl, run_takeDeferred hD, ?_⟩⟩
        exact ⟨_, results_tmp2 rfl _ _ _, 2, rfl, by rw [← HFD.out]; rfl, hBE⟩
  case stop =>
    intro D c own pre W _ h
    exact h.elim

end Go.Proofs.Ythchpoabncdicaa

namespace Go.Proofs.Ythchpoabncdicaa
open Go.RowKit
attribute [local go_sem] Oper.semAt_some

/-- What stay keeps between the rains. -/
def SG (p : Pas) (s : Sky) (nh : Int) (bf : Nat) (pre : List Value) (W : World) : Prop :=
  ∃ (rs : List (List Nat)), pre = rs.map strR ∧ rs <+: rainsF s ∧ (rs.all fun r => fedR p nh r p.grass 0) = true ∧ Blk bf #[.bool true] 4 W
def SX (p : Pas) (s : Sky) (nh : Int) (bf : Nat) (_ : List Value) (W : World) : Prop := fedAll p s nh = false ∧ Blk bf #[.bool false] 4 W

theorem fill_next {n k : Nat} {x : Int} (h : k < n) : (List.replicate k x ++ List.replicate (n - k) 0).set k x = List.replicate (k + 1) x ++ List.replicate (n - (k + 1)) 0 := by
  rw [List.set_append_right _ _ (by simp), List.length_replicate, Nat.sub_self, show n - k = (n - (k + 1)) + 1 by omega, List.replicate_succ, List.set_cons_zero, List.replicate_succ', List.append_assoc]
  rfl

set_option maxRecDepth 100000 in
set_option maxHeartbeats 1000000 in
theorem stay_c {w : World} {p : Pas} {s : Sky} (hp : p.Ok) (hs : s.Ok) {nh : Int} (hh : 0 ≤ nh ∧ nh ≤ 40) :
    Calls Try.prog 137 #[(.agg #[.int .i64 p.grass, .int .i64 p.bears, .int .i64 p.dry, .int .i64 p.wet, .int .i64 p.stub, .int .i64 p.sleep]), (.agg #[.int .i64 s.days, .int .i64 s.drought, .int .i64 s.flood]), .int .i64 nh, .int .i64 0, .int .i64 s.days] w fun e w' => e = .returned (.bool (fedAll p s nh)) ∧ Below w.heap.size w w' := by
  obtain ⟨n, hn⟩ : ∃ n : Nat, s.days = (n : Int) := ⟨s.days.toNat, by have := hs.d; omega⟩
  have hn8 : n ≤ 8 := by have := hs.d; omega
  obtain ⟨w4, hw4⟩ : ∃ w4, w4 = ((((w.alloc (.cells #[.int .i64 p.grass, .int .i64 p.bears, .int .i64 p.dry, .int .i64 p.wet, .int .i64 p.stub, .int .i64 p.sleep] 75)).alloc (.cells #[.int .i64 s.days, .int .i64 s.drought, .int .i64 s.flood] 67)).alloc (.cells #[.int .i64 0] 3)).alloc (.cells #[.int .i64 s.days] 3)) := ⟨_, rfl⟩
  obtain ⟨b0, hb0⟩ : ∃ b, b = w.heap.size := ⟨_, rfl⟩
  have hPb : Blk b0 #[.int .i64 p.grass, .int .i64 p.bears, .int .i64 p.dry, .int .i64 p.wet, .int .i64 p.stub, .int .i64 p.sleep] 75 w4 := by rw [hw4, hb0]; exact (((blk_at rfl _ _).alloc _).alloc _).alloc _
  have hSb : Blk (b0 + 1) #[.int .i64 s.days, .int .i64 s.drought, .int .i64 s.flood] 67 w4 := by rw [hw4, hb0]; exact ((blk_at (by simp) _ _).alloc _).alloc _
  have hFb : Blk (b0 + 1 + 1) #[.int .i64 0] 3 w4 := by rw [hw4, hb0]; exact (blk_at (by simp) _ _).alloc _
  have hDb : Blk (b0 + 1 + 1 + 1) #[.int .i64 n] 3 w4 := by rw [hw4, hb0, hn]; exact blk_at (by simp) _ _
  have hB4 : Below w.heap.size w w4 := by rw [hw4]; exact ((((Below.refl _ w).alloc (Nat.le_refl _) _).alloc (by simp) _).alloc (by simp; omega) _).alloc (by simp; omega) _
  have hz4 : w4.heap.size = b0 + 4 := by rw [hw4, hb0]; simp
  have b0w : w.heap.size ≤ b0 := by omega
  have hmf : ∀ (fn : Fn) (first cap : Array Value) (w : World), (Instr.makeFunc fn first cap).run Try.prog w = .ok (.func fn first cap) w := fun _ _ _ _ => rfl
  have HN := Lib.hid hn
  clear hn
  refine (callsIn_wide (n := 9)).1 (callsIn_of_wp_marks Try.func137 rfl trivial (wpIn_wide.2 ?_))
  simp only [Try.ntmps137, List.size_toArray, List.length_cons, List.length_nil, Nat.reduceAdd, Nat.reduceSub, Array.replicate_succ, Array.replicate_zero, List.push_toArray, List.append_toArray, List.nil_append, List.cons_append]
  go_upto_region 1 with fail
  rw [← hw4, ← hb0]
  clear hw4 hb0
  have c0 : w4.cell? ⟨b0 + 1, 0, none⟩ = some (.int .i64 (n : Int)) := by rw [← HN.out]; exact hSb.cell 0
  have hmk := run_make_ints n (by omega) w4
  refine wp_scope_straight ?_
  go_upto_region 2 with fail
  obtain ⟨w6, hw6⟩ : ∃ w6, w6 = ((w4.alloc (.cells (I64 (List.replicate n 0)).toArray 3)).alloc (.cells #[.slice (some ⟨b0 + 4, 0, none⟩) n n] 22)) := ⟨_, rfl⟩
  have hL6 : IntBlk w6 (b0 + 4) (List.replicate n 0) := by rw [hw6, ← hz4]; exact (intBlk_made w4 n).alloc _
  have hLc6 : Blk (b0 + 4 + 1) #[.slice (some ⟨b0 + 4, 0, none⟩) n n] 22 w6 := by rw [hw6, ← hz4]; exact blk_at (by simp) _ _
  have hB6 : Below w4.heap.size w4 w6 := by rw [hw6]; exact ((Below.refl _ w4).alloc (Nat.le_refl _) _).alloc (by simp) _
  rw [← hw6]
  clear hw6 c0 hmk
  have hPb6 := hPb.call hB6
  have hSb6 := hSb.call hB6
  have hFb6 := hFb.call hB6
  have hDb6 := hDb.call hB6
  have hBw6 := bnx hB4 hB6
  have hz5 : b0 + 4 ≤ w4.heap.size := Nat.le_of_eq hz4.symm
  have hl6 := hLc6.lt
  clear hPb hSb hFb hDb hB4 hB6 hz4
  have c0 := hDb6.cell 0
  go_wp2_with fail
  clear c0
  go_loopw [23] (fun i wr => ∃ k : Nat, k ≤ n ∧ i = .int .i64 k ∧ IntBlk wr (b0 + 4) (List.replicate k nh ++ List.replicate (n - k) 0) ∧ Keep (fun q => q = b0 + 4) w6 wr) (fun i _ => n - (intOf i).toNat)
  case atStart => exact ⟨0, Nat.zero_le _, rfl, by simpa using hL6, Keep.refl _ _⟩
  case round =>
    obtain ⟨k, hk, rfl, hL, hkp⟩ := hrel
    clear hL6
    by_cases hkn : k < n
    · have c0 := (hLc6.keep (hkp.block _ hl6 (by omega))).cell 0
      have c1 := (hFb6.keep (hkp.block _ hFb6.lt (by omega))).cell 0
      have bw : IntKind.i64.wrap ((k : Nat) : Int) = ((k : Nat) : Int) := IntWalk.i64_in _ (by omega)
      have hlen : k < (List.replicate k nh ++ List.replicate (n - k) 0).length := by rw [List.length_append, List.length_replicate, List.length_replicate]; omega
      have c2 := hL.cell k hlen
      have f2 := hL.free k
      go_wp2_with fail
      go_roundw
      case rel =>
        refine ⟨k + 1, by omega, by go_num, ?_, hkp.trans (Keep.setCell _ ⟨b0 + 4, k, none⟩ _ rfl)⟩
        have := hL.set k nh
        rwa [fill_next hkn] at this
      case measure => simp [intOf]; omega
    · obtain rfl : k = n := by omega
      rw [Nat.sub_self, List.replicate_zero, List.append_nil] at hL
      have hPr := hPb6.keep (hkp.block _ hPb6.lt (by omega))
      have hSr := hSb6.keep (hkp.block _ hSb6.lt (by omega))
      have hFr := hFb6.keep (hkp.block _ hFb6.lt (by omega))
      have hDr := hDb6.keep (hkp.block _ hDb6.lt (by omega))
      have hLcr := hLc6.keep (hkp.block _ hl6 (by omega))
      have hBr : Below w.heap.size w wr := hBw6.trans ⟨hkp.os, hkp.tape, hkp.output, hkp.size, fun q hq => hkp.block q (by have := hBw6.size; omega) (by omega)⟩
      clear hPb6 hSb6 hFb6 hDb6 hLc6 hBw6 hkp hl6
      have c0 := hSr.cell 0
      have c1 := hSr.cell 1
      have c2 := hSr.cell 2
      go_upto_region 8 with fail
      apply wp_label
      go_upto_region 8 with fail
      obtain ⟨w7, hw7⟩ : ∃ w7, w7 = wr.alloc (.cells #[.bool true] 4) := ⟨_, rfl⟩
      obtain ⟨bf, hbf⟩ : ∃ b, b = wr.heap.size := ⟨_, rfl⟩
      have hF7 : Blk bf #[.bool true] 4 w7 := by rw [hw7, hbf]; exact blk_at rfl _ _
      have hB7 : Below wr.heap.size wr w7 := by rw [hw7]; exact (Below.refl _ wr).alloc (Nat.le_refl _) _
      have hz7 : w7.heap.size = bf + 1 := by rw [hw7, hbf]; simp
      have hbl : b0 + 4 + 1 < bf := by rw [hbf]; exact hLcr.lt
      rw [← hw7, ← hbf]
      have HZ7 := Lib.hid hz7
      clear hw7 hbf hz7 c0 c1 c2
      have hP7 := hPr.call hB7
      have hS7 := hSr.call hB7
      have hFr7 := hFr.call hB7
      have hDr7 := hDr.call hB7
      have hLc7 := hLcr.call hB7
      have hL7 := hL.call hB7
      have hBw7 := bnx hBr hB7
      clear hPr hSr hFr hDr hLcr hL hBr hB7
      have c0 := hS7.cell 0
      have c1 := hS7.cell 1
      have c2 := hS7.cell 2
      go_wp2_with (go_at_call 139; refine (rains_c _).mono ?_; rintro e wz ⟨rfl, hwz⟩)
      clear c0 c1 c2
      obtain ⟨W0, hW0⟩ : ∃ W0, W0 = w7.alloc (.cells #[.int .i64 s.days, .int .i64 s.drought, .int .i64 s.flood] 67) := ⟨_, rfl⟩
      obtain ⟨nb, hnb⟩ : ∃ nb, nb = w7.heap.size := ⟨_, rfl⟩
      have hNb : Blk nb #[.int .i64 s.days, .int .i64 s.drought, .int .i64 s.flood] 67 W0 := by rw [hW0, hnb]; exact blk_at rfl _ _
      have hzz : nb = bf + 1 := by rw [hnb]; exact HZ7.out
      have hW0z : W0.heap.size = nb + 1 := by rw [hW0, hnb]; simp
      rw [← hW0, ← hnb]
      have hB0 : Below w7.heap.size w7 W0 := by rw [hW0]; exact (Below.refl _ w7).alloc (Nat.le_refl _) _
      have hP0 := hP7.call hB0
      have hFr0 := hFr7.call hB0
      have hDr0 := hDr7.call hB0
      have hLc0 := hLc7.call hB0
      have hL0 := hL7.call hB0
      have hF0 := hF7.call hB0
      have hBw := bnx hBw7 hB0
      have hz1 : nb ≤ bf + 1 := Nat.le_of_eq hzz
      have hz2 : bf + 1 ≤ nb := Nat.le_of_eq hzz.symm
      have hz3 : W0.heap.size ≤ nb + 1 := Nat.le_of_eq hW0z
      have hz4 : nb + 1 ≤ W0.heap.size := Nat.le_of_eq hW0z.symm
      have hwz := hBw.size
      clear hW0 hnb hzz hW0z hP7 hS7 hFr7 hDr7 hLc7 hL7 hF7 hBw7 hB0
      have hF : ∀ q, q = bf → q < W0.heap.size ∧ q ≠ nb := fun q h => by omega
      have hG : ∀ pre (W W' : World), SG p s nh bf pre W → W.heap.size ≤ W'.heap.size → (∀ q, q = bf → W'.heap[q]? = W.heap[q]?) → SG p s nh bf pre W' :=
        fun pre W W' ⟨rs, h1, h2, h3, h4⟩ _ hk => ⟨rs, h1, h2, h3, h4.keep (hk _ rfl)⟩
      have hG2 : ∀ pre (W W' : World), SX p s nh bf pre W → W.heap.size ≤ W'.heap.size → (∀ q, q = bf → W'.heap[q]? = W.heap[q]?) → SX p s nh bf pre W' :=
        fun pre W W' ⟨h1, h2⟩ _ hk => ⟨h1, h2.keep (hk _ rfl)⟩
      have hI0 : RI W0 nb (fun q => q = bf) (SG p s nh bf) (fun q => q < W0.heap.size ∧ q ≠ nb) [] W0 :=
        ⟨Keep.refl _ _, fun q h1 h2 => ⟨h1, h2⟩, fun q h => h.1, [], rfl, List.nil_prefix .., rfl, hF0⟩
      clear hF0
      have hfn : ∀ args w, (callFunc 147 args).run Try.prog w = .ok (.enter 147 args) w := fun args w => by go_simp
      have sX : ∀ c : Code, SideV (fun own pre W => c = .exit 2 ∧ RI W0 nb (fun q => q = bf) (SX p s nh bf) own pre W) := fun c =>
        ⟨fun own pre W h => (RI.side hF hG2).lt own pre W h.2, fun own pre W W' h hk => ⟨h.1, (RI.side hF hG2).step own pre W W' h.2 hk⟩⟩
      refine wp_rangeV (f := 147) (nb := nb) (all := rainsV s) (a₁ := ?a1) rfl rfl hfn hNb.lt (rains_iter hs hNb) (RI W0 nb (fun q => q = bf) (SG p s nh bf)) (fun c own pre W => c = .exit 2 ∧ RI W0 nb (fun q => q = bf) (SX p s nh bf) own pre W) (RI.side hF hG) sX (fun h => h.2 rfl) hI0 ?assign ?body ?done ?stop
      case assign =>
        intro l v W K hK
        gi_wp2
        exact hK
      case body =>
        intro l own pre v W h1 hI hoh hh1 hpre
        refine wpIn_block ?_
        obtain ⟨rs, rfl, hrs, hal, hf1⟩ := hI.g
        obtain ⟨r, hrm, rfl, hrp⟩ := map_prefix_snoc hrs hpre
        obtain ⟨hrl, hrL⟩ := mem_rainsF hrm
        have hrl2 : r.length = k := by rw [hrl, HN.out]; rfl
        have hPW : Blk b0 #[.int .i64 p.grass, .int .i64 p.bears, .int .i64 p.dry, .int .i64 p.wet, .int .i64 p.stub, .int .i64 p.sleep] 75 W := hP0.keep (hI.keep.block b0 (by omega) (by omega))
        have hFW : Blk (b0 + 1 + 1) #[.int .i64 0] 3 W := hFr0.keep (hI.keep.block _ (by omega) (by omega))
        have hDW : Blk (b0 + 1 + 1 + 1) #[.int .i64 k] 3 W := hDr0.keep (hI.keep.block _ (by omega) (by omega))
        have hLW : Blk (b0 + 4 + 1) #[.slice (some ⟨b0 + 4, 0, none⟩) k k] 22 W := hLc0.keep (hI.keep.block _ (by omega) (by omega))
        have hIW : IntBlk W (b0 + 4) (List.replicate k nh) := hL0.step (hI.keep.block _ (by omega) (by omega))
        have hat : ∀ j, j < k → ∀ w', (Instr.index 9 (strR r) (.int .i64 (j : Int))).run Try.prog w' = .ok (.int .u8 (r.getD j 0 : Int)) w' := fun j hj w' => by
          have := strR_at hrL j (by omega) w'
          rw [List.getD_eq_getElem?_getD, List.getElem?_eq_getElem (by omega)]
          exact this
        have HRP := Lib.hid hrp
        have HRM := Lib.hid hrm
        have HAL := Lib.hid hal
        have HRL := Lib.hid hrl2
        have HAT := Lib.hid hat
        obtain ⟨sv, hsv⟩ : ∃ sv, sv = strR r := ⟨_, rfl⟩
        rw [← hsv] at HAT ⊢
        have HSV := Lib.hid hsv
        have hWs := hI.keep.size
        have c0 := hPW.cell 0
        have c1 := hPW.cell 1
        have c2 := hPW.cell 2
        have c3 := hPW.cell 3
        have c4 := hPW.cell 4
        have c5 := hPW.cell 5
        clear hrl hrl2 hrL hrp hrm hal hat hsv hpre
        gi_wp2_with fail
        refine ⟨trivial, CallsIn.mono (CallsIn.inRound _ (callsIn_wide.2 (begin_c _))) ?_⟩
        rintro e W1 ⟨mb, rfl, hmb, hM, hB1⟩
        clear c0 c1 c2 c3 c4 c5
        have c0 := (hFW.call hB1).cell 0
        have c1 := (hDW.call hB1).cell 0
        have bw : IntKind.i64.wrap ((k : Nat) : Int) = ((k : Nat) : Int) := IntWalk.i64_in _ (by omega)
        gi_wp2_with fail
        clear c0 c1 bw
        have hM0 := hM
        clear hM
        gi_loopw [41] (fun i wy => ∃ j : Nat, j ≤ k ∧ i = .int .i64 j ∧ ∃ g a : Int, StandOk p g a ∧ Blk mb #[.int .i64 p.grass, .int .i64 p.bears, .int .i64 p.dry, .int .i64 p.wet, .int .i64 p.stub, .int .i64 p.sleep, .int .i64 g, .int .i64 a] 166 wy ∧ Below W.heap.size W wy ∧ fedR p nh r p.grass 0 = fedR p nh (r.drop j) g a) (fun i _ => k - (intOf i).toNat)
        case atStart => exact ⟨0, Nat.zero_le _, rfl, p.grass, 0, stand_start hp, hM0, hB1, rfl⟩
        case round =>
          rename World => wy
          obtain ⟨j, hj, rfl, g, a, hst, hM, hB, hf⟩ := hrel
          have HF := Lib.hid hf
          clear hf hM0
          by_cases hjk : j < k
          · have hLy := hLW.call hB
            have hlen : j < (List.replicate k nh).length := by rw [List.length_replicate]; exact hjk
            have hcy := (hIW.call (hB.trans (((Qt.refl wy).drewN 1).below _))).cell j hlen
            rw [List.getElem_replicate] at hcy
            have hix := HAT.out j hjk
            have hdr : r.drop j = r.getD j 0 :: r.drop (j + 1) := by
              have hkr : j < r.length := by have := HRL.out; omega
              rw [List.drop_eq_getElem_cons hkr, List.getD_eq_getElem?_getD, List.getElem?_eq_getElem hkr]
              rfl
            obtain ⟨L, hL⟩ : ∃ L, L = r.getD j 0 := ⟨_, rfl⟩
            rw [← hL] at hix hdr
            have HDR := Lib.hid hdr
            have hys := hB.size
            clear hlen hL hdr
            by_cases hhg : nh > g
            · have bh : decide (nh > g) = true := decide_eq_true hhg
              gi_wp2_with fail
              refine wpIn_region_mix2 (.pur 0 (.one 1 (.pur 2 (.pur 3 (.one 4 (.pur 5 (.pur 6 (.pur 7 (.pur 8 (.act 9 (.pur 10 (.pur 11 (.pur 12 (.pur 13 (.pur 14 .fin))))))))))))))) 9 (fun w' => Blk (b0 + 4 + 1) #[.slice (some ⟨b0 + 4, 0, none⟩) k k] 22 w' ∧ w'.cell? ⟨b0 + 4, j, none⟩ = some (.int .i64 nh) ∧ Blk mb #[.int .i64 p.grass, .int .i64 p.bears, .int .i64 p.dry, .int .i64 p.wet, .int .i64 p.stub, .int .i64 p.sleep, .int .i64 g, .int .i64 a] 166 w') (fun _ => True) (by kernel_rfl) (by kernel_rfl) (by kernel_rfl) (fun a w h => by obtain ⟨o, _, _, h⟩ := h; exact h) rfl (by kernel_rfl) ⟨hLy.call (((Qt.refl wy).drewN 1).below _), hcy, hM.call (((Qt.refl wy).drewN 1).below _)⟩ (fun wd hqd _ => ?_)
              refine mix_pur2 rfl (fun K hK => ?_)
              go_simp
              first | refine ⟨_, fun _ => rfl, hK _ ?_⟩ | refine hK _ ?_
              clear hK K
              refine mix_load2 rfl rfl rfl (.slice (some ⟨b0 + 4, 0, none⟩) k k) (fun w' h => by have h : (fun w' => Blk (b0 + 4 + 1) #[.slice (some ⟨b0 + 4, 0, none⟩) k k] 22 w' ∧ w'.cell? ⟨b0 + 4, j, none⟩ = some (.int .i64 nh) ∧ Blk mb #[.int .i64 p.grass, .int .i64 p.bears, .int .i64 p.dry, .int .i64 p.wet, .int .i64 p.stub, .int .i64 p.sleep, .int .i64 g, .int .i64 a] 166 w') w' := h; have h0 := h.1.cell 0; go_simp) rfl ?_
              refine mix_pur2 rfl (fun K hK => ?_)
              go_simp
              first | refine ⟨_, fun _ => rfl, hK _ ?_⟩ | refine hK _ ?_
              clear hK K
              refine mix_pur2 rfl (fun K hK => ?_)
              go_simp
              first | refine ⟨_, fun _ => rfl, hK _ ?_⟩ | refine hK _ ?_
              clear hK K
              refine mix_load2 rfl rfl rfl (.int .i64 nh) (fun w' h => by have h : (fun w' => Blk (b0 + 4 + 1) #[.slice (some ⟨b0 + 4, 0, none⟩) k k] 22 w' ∧ w'.cell? ⟨b0 + 4, j, none⟩ = some (.int .i64 nh) ∧ Blk mb #[.int .i64 p.grass, .int .i64 p.bears, .int .i64 p.dry, .int .i64 p.wet, .int .i64 p.stub, .int .i64 p.sleep, .int .i64 g, .int .i64 a] 166 w') w' := h; have h0 := h.2.1; go_simp) rfl ?_
              refine mix_pur2 rfl (fun K hK => ?_)
              go_simp
              first | refine ⟨_, fun _ => rfl, hK _ ?_⟩ | refine hK _ ?_
              clear hK K
              refine mix_pur2 rfl (fun K hK => ?_)
              go_simp
              first | refine ⟨_, fun _ => rfl, hK _ ?_⟩ | refine hK _ ?_
              clear hK K
              refine mix_pur2 rfl (fun K hK => ?_)
              go_simp
              first | refine ⟨_, fun _ => rfl, hK _ ?_⟩ | refine hK _ ?_
              clear hK K
              refine mix_pur2 rfl (fun K hK => ?_)
              go_simp
              first | refine ⟨_, fun _ => rfl, hK _ ?_⟩ | refine hK _ ?_
              clear hK K
              refine mix_eff2 rfl true rfl (fun K hK => ?_)
              go_simp
              refine (day_c (hM.call (hqd.below _)) hp (by have := hst.g; have := hp.b; omega) (by have := hst.a; have := hp.sl; omega) hh _).mono ?_
              rintro e w7 ⟨rfl, hM7, hK7⟩
              refine hK _ _ trivial ?_
              clear hK K
              refine mix_pur2 rfl (fun K hK => ?_)
              go_simp
              first | refine ⟨_, fun _ => rfl, hK _ ?_⟩ | refine hK _ ?_
              clear hK K
              refine mix_pur2 rfl (fun K hK => ?_)
              go_simp
              first | refine ⟨_, fun _ => rfl, hK _ ?_⟩ | refine hK _ ?_
              clear hK K
              refine mix_pur2 rfl (fun K hK => ?_)
              go_simp
              first | refine ⟨_, fun _ => rfl, hK _ ?_⟩ | refine hK _ ?_
              clear hK K
              refine mix_pur2 rfl (fun K hK => ?_)
              go_simp
              first | refine ⟨_, fun _ => rfl, hK _ ?_⟩ | refine hK _ ?_
              clear hK K
              refine mix_pur2 rfl (fun K hK => ?_)
              go_simp
              first | refine ⟨_, fun _ => rfl, hK _ ?_⟩ | refine hK _ ?_
              clear hK K
              refine mix_done2 ?_
              have hB7 : Below W.heap.size W w7 := (hB.trans (hqd.below _)).trans (keep_below hK7 hmb (hM.call (hqd.below _)).lt)
              have g1 := hf1.call hB7
              have y0 := g1.cell 0
              have y1 := g1.free 0
              gi_wp2_with fail
              have hfed : fedR p nh r p.grass 0 = false := by rw [HF.out, HDR.out, fedR, if_pos hhg]
              obtain ⟨k1, k2⟩ := RI.next (G' := SX p s nh bf) hF hI (pre' := rs.map strR ++ [sv]) (W' := w7.setCell ⟨bf, 0, none⟩ (.bool false)) ((Keep.call hB7).trans (Keep.setCell _ ⟨bf, 0, none⟩ _ rfl))
                ⟨List.all_eq_false.2 ⟨r, HRM.out, by rw [hfed]; decide⟩, by simpa using g1.set 0 (.bool false)⟩
              exact ⟨own, fun q _ h => h, k1, rfl, k2⟩
            · have bh : decide (nh > g) = false := decide_eq_false hhg
              gi_wp2_with fail
              refine wpIn_region_mix2 (.pur 0 (.one 1 (.pur 2 (.pur 3 (.one 4 (.pur 5 (.pur 6 (.pur 7 (.pur 8 (.act 9 (.pur 10 (.pur 11 (.pur 12 (.pur 13 (.pur 14 .fin))))))))))))))) 9 (fun w' => Blk (b0 + 4 + 1) #[.slice (some ⟨b0 + 4, 0, none⟩) k k] 22 w' ∧ w'.cell? ⟨b0 + 4, j, none⟩ = some (.int .i64 nh) ∧ Blk mb #[.int .i64 p.grass, .int .i64 p.bears, .int .i64 p.dry, .int .i64 p.wet, .int .i64 p.stub, .int .i64 p.sleep, .int .i64 g, .int .i64 a] 166 w') (fun _ => True) (by kernel_rfl) (by kernel_rfl) (by kernel_rfl) (fun a w h => by obtain ⟨o, _, _, h⟩ := h; exact h) rfl (by kernel_rfl) ⟨hLy.call (((Qt.refl wy).drewN 1).below _), hcy, hM.call (((Qt.refl wy).drewN 1).below _)⟩ (fun wd hqd _ => ?_)
              refine mix_pur2 rfl (fun K hK => ?_)
              go_simp
              first | refine ⟨_, fun _ => rfl, hK _ ?_⟩ | refine hK _ ?_
              clear hK K
              refine mix_load2 rfl rfl rfl (.slice (some ⟨b0 + 4, 0, none⟩) k k) (fun w' h => by have h : (fun w' => Blk (b0 + 4 + 1) #[.slice (some ⟨b0 + 4, 0, none⟩) k k] 22 w' ∧ w'.cell? ⟨b0 + 4, j, none⟩ = some (.int .i64 nh) ∧ Blk mb #[.int .i64 p.grass, .int .i64 p.bears, .int .i64 p.dry, .int .i64 p.wet, .int .i64 p.stub, .int .i64 p.sleep, .int .i64 g, .int .i64 a] 166 w') w' := h; have h0 := h.1.cell 0; go_simp) rfl ?_
              refine mix_pur2 rfl (fun K hK => ?_)
              go_simp
              first | refine ⟨_, fun _ => rfl, hK _ ?_⟩ | refine hK _ ?_
              clear hK K
              refine mix_pur2 rfl (fun K hK => ?_)
              go_simp
              first | refine ⟨_, fun _ => rfl, hK _ ?_⟩ | refine hK _ ?_
              clear hK K
              refine mix_load2 rfl rfl rfl (.int .i64 nh) (fun w' h => by have h : (fun w' => Blk (b0 + 4 + 1) #[.slice (some ⟨b0 + 4, 0, none⟩) k k] 22 w' ∧ w'.cell? ⟨b0 + 4, j, none⟩ = some (.int .i64 nh) ∧ Blk mb #[.int .i64 p.grass, .int .i64 p.bears, .int .i64 p.dry, .int .i64 p.wet, .int .i64 p.stub, .int .i64 p.sleep, .int .i64 g, .int .i64 a] 166 w') w' := h; have h0 := h.2.1; go_simp) rfl ?_
              refine mix_pur2 rfl (fun K hK => ?_)
              go_simp
              first | refine ⟨_, fun _ => rfl, hK _ ?_⟩ | refine hK _ ?_
              clear hK K
              refine mix_pur2 rfl (fun K hK => ?_)
              go_simp
              first | refine ⟨_, fun _ => rfl, hK _ ?_⟩ | refine hK _ ?_
              clear hK K
              refine mix_pur2 rfl (fun K hK => ?_)
              go_simp
              first | refine ⟨_, fun _ => rfl, hK _ ?_⟩ | refine hK _ ?_
              clear hK K
              refine mix_pur2 rfl (fun K hK => ?_)
              go_simp
              first | refine ⟨_, fun _ => rfl, hK _ ?_⟩ | refine hK _ ?_
              clear hK K
              refine mix_eff2 rfl true rfl (fun K hK => ?_)
              go_simp
              refine (day_c (hM.call (hqd.below _)) hp (by have := hst.g; have := hp.b; omega) (by have := hst.a; have := hp.sl; omega) hh _).mono ?_
              rintro e w7 ⟨rfl, hM7, hK7⟩
              refine hK _ _ trivial ?_
              clear hK K
              refine mix_pur2 rfl (fun K hK => ?_)
              go_simp
              first | refine ⟨_, fun _ => rfl, hK _ ?_⟩ | refine hK _ ?_
              clear hK K
              refine mix_pur2 rfl (fun K hK => ?_)
              go_simp
              first | refine ⟨_, fun _ => rfl, hK _ ?_⟩ | refine hK _ ?_
              clear hK K
              refine mix_pur2 rfl (fun K hK => ?_)
              go_simp
              first | refine ⟨_, fun _ => rfl, hK _ ?_⟩ | refine hK _ ?_
              clear hK K
              refine mix_pur2 rfl (fun K hK => ?_)
              go_simp
              first | refine ⟨_, fun _ => rfl, hK _ ?_⟩ | refine hK _ ?_
              clear hK K
              refine mix_pur2 rfl (fun K hK => ?_)
              go_simp
              first | refine ⟨_, fun _ => rfl, hK _ ?_⟩ | refine hK _ ?_
              clear hK K
              refine mix_done2 ?_
              have hB7 : Below W.heap.size W w7 := (hB.trans (hqd.below _)).trans (keep_below hK7 hmb (hM.call (hqd.below _)).lt)
              gi_wp2_with fail
              go_roundw
              case rel =>
                refine ⟨j + 1, by omega, by go_num, _, _, stand_next hp (wet := L == 119) hst hh.1, ?_, hB7, ?_⟩
                · rwa [show (((L : Nat) : Int) == 119) = (L == 119) by rw [Bool.eq_iff_iff]; simp; omega] at hM7
                · rw [HF.out, HDR.out, fedR, if_neg (by have := of_decide_eq_false bh; exact this)]
              case measure => simp [intOf]; omega
          · obtain rfl : j = k := by omega
            gi_wp2_with fail
            have hfed : fedR p nh r p.grass 0 = true := by rw [HF.out, List.drop_eq_nil_of_le (by have := HRL.out; omega)]; rfl
            have e := HSV.out
            subst e
            obtain ⟨k1, k2⟩ := RI.next (G' := SG p s nh bf) hF hI (pre' := (rs ++ [r]).map strR) (W' := wy) (Keep.call hB)
              ⟨rs ++ [r], rfl, HRP.out, by rw [List.all_append, HAL.out]; simp [hfed], hf1.call hB⟩
            rw [List.map_append] at k2
            exact ⟨own, fun q _ h => h, k1, k2⟩
      case done =>
        intro D own W hI hD hDl hDo
        obtain ⟨rs, hrs, hrp, hal, hf1⟩ := hI.g
        obtain rfl := prefix_map_all hrp hrs.symm
        have hfa : fedAll p s nh = true := hal
        have hBW : Below w.heap.size w W := hBw.trans ⟨hI.keep.os, hI.keep.tape, hI.keep.output, hI.keep.size, fun q hq => hI.keep.block q (by omega) (by omega)⟩
        have hBE : Below w.heap.size w (W.putObj D (.deferred none)) := hBW.trans ⟨rfl, rfl, rfl, by simp, fun q hq => World.putObj_heap_other (by omega)⟩
        have y0 := hf1.cell 0
        have HFA := Lib.hid hfa
        clear hrs hrp hal hfa hI0 hI hP0 hFr0 hDr0 hLc0 hL0 hBw
        go_wp2_with fail
        refine ⟨by simp, .inl ⟨_, _, rfl, run_takeDeferred hD, ?_⟩⟩
        exact ⟨_, results_tmp rfl _ _ _, by rw [HFA.out]; rfl, hBE⟩
      case stop =>
        intro D c own pre W hpp h hD hDl hDo
        obtain ⟨rfl, hI⟩ := h
        obtain ⟨hfa, hf1⟩ := hI.g
        have hBW : Below w.heap.size w W := hBw.trans ⟨hI.keep.os, hI.keep.tape, hI.keep.output, hI.keep.size, fun q hq => hI.keep.block q (by omega) (by omega)⟩
        have hBE : Below w.heap.size w (W.putObj D (.deferred none)) := hBW.trans ⟨rfl, rfl, rfl, by simp, fun q hq => World.putObj_heap_other (by omega)⟩
        have y0 := hf1.cell 0
        have HFA := Lib.hid hfa
        clear hfa hI0 hI hP0 hFr0 hDr0 hLc0 hL0 hBw
        go_wp2_with fail
        refine ⟨by simp, .inl ⟨_, _, rfl, run_takeDeferred hD, ?_⟩⟩
        exact ⟨_, results_tmp rfl _ _ _, by rw [HFA.out]; rfl, hBE⟩

end Go.Proofs.Ythchpoabncdicaa

