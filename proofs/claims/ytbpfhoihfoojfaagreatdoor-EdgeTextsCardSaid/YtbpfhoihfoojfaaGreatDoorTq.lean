/- All truths of an edge, counted; conditions: as said. -/
import Derived.Test.YtbpfhoihfoojfaaGreatDoorMem
import Derived.Test.YtbpfhoihfoojfaaGreatDoorBn
import Derived.OwnWalkIn
import Derived.TacticsInMore
import Derived.Test.YtbpfhoihfoojfaaGreatDoorFq
import Derived.ChangeKeysEq
namespace Go.Proofs.YtbpfhoihfoojfaaGreatDoor
open Go.RowKit

/-- The same, counted. -/
structure SideN (J : (Nat → Prop) → Nat → World → Prop) : Prop where
  lt : ∀ own pre W, J own pre W → ∀ k, own k → k < W.heap.size
  step : ∀ own pre W W', J own pre W → Keep (fun k => ¬ own k) W W' → J own pre W'
/-- How the body of a round is left. -/
def BodyEndN (I : (Nat → Prop) → Nat → World → Prop) (own : Nat → Prop) (h : Nat) (n : Nat) (W : World) (e : Exit) (_ : Act) (W' : World) : Prop :=
  ∃ own', (∀ k, k < h → own' k → own k) ∧ Keep own W W' ∧ e = .normal ∧ I own' n W'
theorem prefix_at {α β : Type} {f : α → β} {L : List α} {pre : List β} {v : β} (h : pre ++ [v] <+: L.map f) : ∃ hk : pre.length < L.length, v = f L[pre.length] := by
  obtain ⟨t, ht⟩ := h
  have h1 := congrArg List.length ht
  simp at h1
  have hk : pre.length < L.length := by omega
  refine ⟨hk, ?_⟩
  have h2 : (L.map f)[pre.length]? = some v := by rw [← ht]; simp
  rw [List.getElem?_map, List.getElem?_eq_getElem hk] at h2
  injection h2 with h2
  exact h2.symm

set_option maxRecDepth 100000 in
theorem wp_rangeA {α : Type} {f₀ : α → Value} {L : List α} {ps : Array Tmp} {assign body : Code} {Q : Exit → Act → World → Prop} {a : Act} {w : World} {g : Operand} {f nb : Nat} {own : Nat → Prop}
    (hg : a.eval g = .func (.func f) #[] #[.pointer (some ⟨nb, 0, none⟩)]) (hps : ps.size = 1) (hf : ∀ args w, (callFunc f args).run Tryz.prog w = .ok (.enter f args) w) (hnl : nb < w.heap.size) (hit : IterT f nb (L.map f₀) w)
    (I : (Nat → Prop) → Nat → World → Prop) (sI : SideN I) (hnb : ¬ own nb) (h0 : I own 0 w)
    (a₁ : α → Nat → Act) (o₁ : α → Obj)
    (hassign : ∀ (l : Nat) (r : α) (W : World) (b : Nat) (K : Act → World → Prop), b = W.heap.size → K (a₁ r b) (W.alloc (o₁ r)) →
      assign.wpIn (Fence.wide.inRound l) 8 Tryz.prog (Exit.then K (fun _ _ _ => False)) { tmps := (ps.zip #[f₀ r]).foldl (fun t (p, v) => t.setIfInBounds p v) a.tmps, defers := [] } W)
    (hbody : ∀ (l : Nat) (own : Nat → Prop) (k : Nat) (hk : k < L.length) (W : World) (h b : Nat), I own k W → (∀ q, own q → q < h) → h ≤ W.heap.size → ¬ own b → W.heap[b]? = some (o₁ L[k]) →
      body.wpIn (Fence.wide.inRound l) 8 Tryz.prog (BodyEndN I own h (k + 1) W) (a₁ L[k] b) W)
    (hdone : ∀ (D : Nat) (own : Nat → Prop) (W : World), I own L.length W → W.heap[D]? = some (.deferred (some [])) → w.heap.size ≤ D → ¬ own D → Q .normal { a with defers := { target := .collected D, args := #[] } :: a.defers } W) :
    (Code.rangeFunc g ps assign body).wp Tryz.prog Q a w := by
  refine (wpIn_wide (n := 9)).1 (wpIn_rangeFunc ?_)
  intro fn hfn
  obtain ⟨rec, hrec⟩ : ∃ rec : LoopState → Option Code → Loop, rec = fun st pe => { state := st, pending := pe, fn, tmps := a.tmps, params := ps, assign, body, defers := w.heap.size } := ⟨_, rfl⟩
  obtain ⟨W1, hW1⟩ : ∃ W1, (w.alloc (.deferred (some []))).alloc (.loop (rec .ready none)) = W1 := ⟨_, rfl⟩
  have hB1 : Below w.heap.size w W1 := by rw [← hW1]; exact ((Below.refl _ w).alloc (Nat.le_refl _) _).alloc (by simp) _
  have hL1 : W1.heap[w.heap.size + 1]? = some (.loop (rec .ready none)) := by
    rw [← hW1]; have := World.alloc_heap_new (w.alloc (.deferred (some []))) (.loop (rec .ready none)); rwa [World.size_alloc] at this
  have hK1 : W1.heap[w.heap.size]? = some (.deferred (some [])) := by
    rw [← hW1]; exact (Below.heap_alloc _ _ _ (by simp)).trans (World.alloc_heap_new w _)
  have hI1 : I own 0 W1 := sI.step own 0 w W1 h0 (Keep.call hB1)
  have hlt0 := sI.lt own 0 w h0
  refine ⟨w.heap.size + 1, [{ target := .collected w.heap.size, args := #[] }], W1, { target := .fn (.func f) #[.pointer (some ⟨nb, 0, none⟩)], args := #[.func (.yield (w.heap.size + 1)) #[] #[]] }, W1, f,
    #[.func (.yield (w.heap.size + 1)) #[] #[], .pointer (some ⟨nb, 0, none⟩)], W1, ?_, ?_, fun _ _ => trivial, ?_, fun _ => by omega, ?_⟩
  · rw [← hW1, hrec]; exact run_enterLoop_outer _ _ _ _ _
  · simp only [resolve, hg]
    simp [go_sem]
  · simp [invoke, go_sem, hf]
  · obtain ⟨J, hJ⟩ : ∃ J : (Nat → Prop) → List Value → World → Prop, J = fun own2 pre W => ∃ own, (∀ k, own2 k ↔ (own k ∨ k = w.heap.size + 1 ∨ k = w.heap.size)) ∧ ¬ own (w.heap.size + 1) ∧ ¬ own w.heap.size ∧ I own pre.length W ∧
        W.heap[w.heap.size + 1]? = some (.loop (rec .ready none)) ∧ W.heap[w.heap.size]? = some (.deferred (some [])) := ⟨_, rfl⟩
    have sJ : SideV J := by
      rw [hJ]
      refine ⟨fun o2 pre W ⟨o, he, _, _, hi, hl, hk⟩ k hk2 => ?_, fun o2 pre W W' ⟨o, he, n1, n2, hi, hl, hk⟩ hs => ⟨o, he, n1, n2, sI.step o _ W W' hi (hs.mono fun k _ hn h => hn ((he k).2 (.inl h))), ?_, ?_⟩⟩
      · rcases (he k).1 hk2 with h | rfl | rfl
        · exact sI.lt o _ W hi k h
        · exact (Array.getElem?_eq_some_iff.1 hl).1
        · exact (Array.getElem?_eq_some_iff.1 hk).1
      · exact (hs.block _ (Array.getElem?_eq_some_iff.1 hl).1 (fun h => h ((he _).2 (.inr (.inl rfl))))).trans hl
      · exact (hs.block _ (Array.getElem?_eq_some_iff.1 hk).1 (fun h => h ((he _).2 (.inr (.inr rfl))))).trans hk
    have hR : RndT (w.heap.size + 1) (L.map f₀) J := by
      intro o2 pre v W h hj hlt hh hp
      rw [hJ] at hj
      obtain ⟨o, he, n1, n2, hi, hl, hk⟩ := hj
      obtain ⟨hkL, rfl⟩ := prefix_at hp
      have hl1 : w.heap.size + 1 < h := hlt _ ((he _).2 (.inr (.inl rfl)))
      have hl0 : w.heap.size < h := by omega
      have hy := run_yield (P := Tryz.prog) (args := #[f₀ L[pre.length]]) hl (by rw [hrec]; exact hps.symm)
      rw [hrec] at hy
      obtain ⟨Wa, hWa⟩ : ∃ Wa, Wa = W.alloc (o₁ L[pre.length]) := ⟨_, rfl⟩
      have hsa : Wa.heap.size = W.heap.size + 1 := by rw [hWa]; simp
      have hKa : ∀ (o : Nat → Prop), Keep o W Wa := fun o => by rw [hWa]; exact Keep.alloc _ _
      have hla : Wa.heap[w.heap.size + 1]? = some (.loop (rec .ready none)) := ((hKa (fun _ => False)).block _ (by omega) id).trans hl
      have hka : Wa.heap[w.heap.size]? = some (.deferred (some [])) := ((hKa (fun _ => False)).block _ (by omega) id).trans hk
      have hba : Wa.heap[W.heap.size]? = some (o₁ L[pre.length]) := by rw [hWa]; exact World.alloc_heap_new W _
      refine ⟨fn, _, assign, body, hy, roundIn_of_wpIn hfn (hassign _ L[pre.length] W _ _ rfl ⟨_, run_beginRound (by rw [← hWa]; exact hla) (by rw [hrec]), ?_⟩)⟩
      rw [← hWa]
      obtain ⟨W2, hW2⟩ : ∃ W2, W2 = Wa.putObj (w.heap.size + 1) (.loop { rec .ready none with state := .busy }) := ⟨_, rfl⟩
      rw [← hW2]
      have hs2 : W2.heap.size = Wa.heap.size := by rw [hW2]; simp
      have hk2 : ∀ (o : Nat → Prop), o (w.heap.size + 1) → Keep o Wa W2 := fun o ho => by rw [hW2]; exact Keep.putObj _ _ _ ho
      have hl2 : W2.heap[w.heap.size + 1]? = some (.loop { rec .ready none with state := .busy }) := by rw [hW2]; exact World.putObj_heap_same (by omega)
      have hi2 : I o pre.length W2 := sI.step o _ Wa W2 (sI.step o _ W Wa hi (hKa _)) (hk2 _ n1)
      have hb2 : W2.heap[W.heap.size]? = some (o₁ L[pre.length]) := ((hk2 (fun k => k = w.heap.size + 1) rfl).block _ (by omega) (by omega)).trans hba
      refine wpIn_mono (hbody _ o pre.length hkL W2 h W.heap.size hi2 (fun k hk => hlt k ((he k).2 (.inl hk))) (by omega) (fun ho => by have := hlt _ ((he _).2 (.inl ho)); omega) hb2) ?_
      rintro e a3 W3 ⟨o', ho', hkp, rfl, hend⟩
      have hl3 : W3.heap[w.heap.size + 1]? = some (.loop { rec .ready none with state := .busy }) := (hkp.block _ (by omega) n1).trans hl2
      have hk3 : W3.heap[w.heap.size]? = some (.deferred (some [])) := (hkp.block _ (by omega) n2).trans (((hk2 (fun k => k = w.heap.size + 1) rfl).block _ (by omega) (by omega)).trans hka)
      have n1' : ¬ o' (w.heap.size + 1) := fun h => n1 (ho' _ (by omega) h)
      have n2' : ¬ o' w.heap.size := fun h => n2 (ho' _ (by omega) h)
      have fin : ∀ (jump : Option Code), ∃ W4, (Instr.endRound (w.heap.size + 1) jump).run Tryz.prog W3 = .ok (.bool jump.isNone) W4 ∧ W4.heap[w.heap.size + 1]? = some (.loop (rec (if jump.isNone then .ready else .done) jump)) ∧
          W4.heap[w.heap.size]? = some (.deferred (some [])) ∧ Keep (fun k => k = w.heap.size + 1) W3 W4 := fun jump => by
        have := run_endRound (P := Tryz.prog) jump hl3
        rw [hrec] at this ⊢
        exact ⟨_, this, World.putObj_heap_same (Array.getElem?_eq_some_iff.1 hl3).1, (World.putObj_heap_other (by omega)).trans hk3, Keep.putObj _ _ _ rfl⟩
      have hs3 := hkp.size
      have big : ∀ W4, Keep (fun k => k = w.heap.size + 1) W3 W4 → (∀ k, k < h → (o' k ∨ k = w.heap.size + 1 ∨ k = w.heap.size) → o2 k) ∧ (∀ k, k < h → ¬ o2 k → W4.heap[k]? = W.heap[k]?) ∧ W.heap.size ≤ W4.heap.size := fun W4 h4 => by
        have hs4 := h4.size
        refine ⟨fun k hk ho => (he k).2 (ho.imp (ho' k hk) id), fun k hk hn => ?_, by omega⟩
        have e1 : k ≠ w.heap.size + 1 := fun e => hn ((he k).2 (.inr (.inl e)))
        have e2 : ¬ o k := fun e => hn ((he k).2 (.inl e))
        exact (h4.block k (by omega) e1).trans ((hkp.block k (by omega) e2).trans (((hk2 (fun k => k = w.heap.size + 1) rfl).block k (by omega) e1).trans ((hKa (fun _ => False)).block k (by omega) id)))
      obtain ⟨W4, hr, hl4, hk4, h4⟩ := fin none
      obtain ⟨g1, g2, g3⟩ := big W4 h4
      refine ⟨_, _, hr, fun k => o' k ∨ k = w.heap.size + 1 ∨ k = w.heap.size, g1, g2, g3, rfl, ?_⟩
      rw [hJ]
      have hlen : (pre ++ [f₀ L[pre.length]]).length = pre.length + 1 := by simp
      exact ⟨o', fun k => Iff.rfl, n1', n2', by rw [hlen]; exact sI.step _ _ _ _ hend (h4.mono fun k _ e => by subst e; exact n1'), hl4, hk4⟩
    have hj1 : J (fun k => own k ∨ k = w.heap.size + 1 ∨ k = w.heap.size) [] W1 := by
      rw [hJ]
      exact ⟨own, fun k => Iff.rfl, fun h => by have := hlt0 _ h; omega, fun h => by have := hlt0 _ h; omega, hI1, hL1, hK1⟩
    have hcall := hit (w.heap.size + 1) J _ W1 sJ hR hB1 (fun h => by rcases h with h | h | h; exact hnb h; omega; omega) hj1
    refine CallsIn.mono (callsIn_wide.2 hcall) ?_
    rintro e W' ⟨⟨v, rfl⟩, o2, hj⟩
    rw [hJ] at hj
    obtain ⟨o, he, n1, n2, hi, hl, hk⟩ := hj
    rw [List.length_map] at hi
    have hend := run_endLoop (P := Tryz.prog) hl (by rw [hrec]; simp)
    refine ⟨none, _, by rw [hrec] at hend; exact hend, ?_⟩
    exact hdone w.heap.size o _ (sI.step _ _ _ _ hi (Keep.putObj _ _ _ n1)) ((World.putObj_heap_other (by omega)).trans hk) (Nat.le_refl _) n2

/-- What stands between the rounds. -/
structure RI (w0 : World) (nb : Nat) (F : Nat → Prop) (G : Nat → World → Prop) (own : Nat → Prop) (pre : Nat) (W : World) : Prop where
  keep : Keep (fun k => k = nb ∨ F k) w0 W
  low : ∀ k, k < w0.heap.size → k ≠ nb → own k
  lt : ∀ k, own k → k < W.heap.size
  g : G pre W
theorem RI.side {w0 : World} {nb : Nat} {F : Nat → Prop} {G : Nat → World → Prop} (hF : ∀ k, F k → k < w0.heap.size ∧ k ≠ nb) (hG : ∀ pre W W', G pre W → W.heap.size ≤ W'.heap.size → (∀ k, F k → W'.heap[k]? = W.heap[k]?) → G pre W') : SideN (RI w0 nb F G) := by
  refine ⟨fun own pre W h => h.lt, fun own pre W W' h hk => ?_⟩
  have ho : ∀ k, own k → W'.heap[k]? = W.heap[k]? := fun k hko => hk.block k (h.lt k hko) (fun hn => hn hko)
  refine ⟨⟨hk.os.trans h.keep.os, hk.tape.trans h.keep.tape, hk.output.trans h.keep.output, Nat.le_trans h.keep.size hk.size, fun k hkw hn => ?_⟩, h.low, fun k hko => Nat.lt_of_lt_of_le (h.lt k hko) hk.size, hG _ _ _ h.g hk.size fun k hf => ho k (h.low k (hF k hf).1 (hF k hf).2)⟩
  exact (ho k (h.low k hkw (fun e => hn (.inl e)))).trans (h.keep.block k hkw hn)
theorem RI.next {w0 : World} {nb : Nat} {F : Nat → Prop} {G G' : Nat → World → Prop} (hF : ∀ k, F k → k < w0.heap.size ∧ k ≠ nb) {own : Nat → Prop} {pre pre' : Nat} {W W' : World} (h : RI w0 nb F G own pre W) (hk : Keep F W W') (hg : G' pre' W') : Keep own W W' ∧ RI w0 nb F G' own pre' W' := by
  refine ⟨hk.mono fun k _ hf => h.low k (hF k hf).1 (hF k hf).2, ?_, h.low, fun k hko => Nat.lt_of_lt_of_le (h.lt k hko) hk.size, hg⟩
  exact ⟨hk.os.trans h.keep.os, hk.tape.trans h.keep.tape, hk.output.trans h.keep.output, Nat.le_trans h.keep.size hk.size, fun k hkw hn => (hk.block k (Nat.lt_of_lt_of_le hkw h.keep.size) (fun hf => hn (.inr hf))).trans (h.keep.block k hkw hn)⟩


end Go.Proofs.YtbpfhoihfoojfaaGreatDoor

namespace Go.Proofs.YtbpfhoihfoojfaaGreatDoor
open Go.RowKit

/-- What a call leaves of what is not the loop's. -/
structure Guar (own own' : Nat → Prop) (W W' : World) : Prop where
  sub : ∀ q, q < W.heap.size → own' q → own q
  keep : ∀ q, q < W.heap.size → ¬ own q → W'.heap[q]? = W.heap[q]?
  size : W.heap.size ≤ W'.heap.size
theorem Guar.refl (own : Nat → Prop) (W : World) : Guar own own W W := ⟨fun _ _ h => h, fun _ _ _ => rfl, Nat.le_refl _⟩
theorem Guar.trans {o o' o'' : Nat → Prop} {a b c : World} (h : Guar o o' a b) (k : Guar o' o'' b c) : Guar o o'' a c :=
  ⟨fun q hq h'' => h.sub q hq (k.sub q (Nat.lt_of_lt_of_le hq h.size) h''), fun q hq hn => (k.keep q (Nat.lt_of_lt_of_le hq h.size) (fun h' => hn (h.sub q hq h'))).trans (h.keep q hq hn), Nat.le_trans h.size k.size⟩
theorem Guar.call {own : Nat → Prop} {W W' : World} (h : Below W.heap.size W W') : Guar own own W W' := ⟨fun _ _ h => h, fun q hq _ => h.block q hq, h.size⟩
theorem Guar.blk {o o' : Nat → Prop} {W W' : World} (h : Guar o o' W W') {b : Nat} {c : Array Value} {t : TypeId} (hb : Blk b c t W) (hn : ¬ o b) : Blk b c t W' ∧ ¬ o' b := ⟨hb.keep (h.keep b hb.lt hn), fun h' => hn (h.sub b hb.lt h')⟩

/-- What the walk over the offsets reads. -/
structure WS (x : Edg) (n : Nat) (s : Bs) (lr bx bc bY bs bw g : Nat) (vx : Value) (own : Nat → Prop) (W : World) : Prop where
  hX : Blk bx #[.int .i64 (n : Int), .int .i64 x.bend, vx] 24 W ∧ ¬ own bx
  hC : ∃ vc, (Blk bc #[vc] 185 W ∧ ¬ own bc) ∧ Elems (fun c => [clV c]) (fun q => ¬ own q) W vc x.claims
  hY : Blk bY #[.func (.yield lr) #[] #[]] 184 W ∧ ¬ own bY
  hS : Blk bs #[.slice (some ⟨g, 0, none⟩) n n] 103 W ∧ ¬ own bs
  hE : EB g s W ∧ ¬ own g
  hW : Blk bw #[.func (.func 96) #[] #[.pointer (some ⟨bx, 0, none⟩), .pointer (some ⟨bc, 0, none⟩), .pointer (some ⟨bY, 0, none⟩), .pointer (some ⟨bs, 0, none⟩), .pointer (some ⟨bw, 0, none⟩)]] 186 W ∧ ¬ own bw
theorem WS.step {x : Edg} {n : Nat} {s : Bs} {lr bx bc bY bs bw g : Nat} {vx : Value} {o o' : Nat → Prop} {W W' : World} (h : WS x n s lr bx bc bY bs bw g vx o W) (hg : Guar o o' W W') : WS x n s lr bx bc bY bs bw g vx o' W' := by
  obtain ⟨vc, h1, h2⟩ := h.hC
  refine ⟨hg.blk h.hX.1 h.hX.2, ⟨vc, hg.blk h1.1 h1.2, ?_⟩, hg.blk h.hY.1 h.hY.2, hg.blk h.hS.1 h.hS.2, hg.blk h.hE.1 h.hE.2, hg.blk h.hW.1 h.hW.2⟩
  exact (h2.wide (A' := fun q => q < W.heap.size ∧ ¬ o q) fun k hk hl => ⟨hl, hk⟩).step hg.size (fun k hk hl => hg.keep k hl hk.2) |>.wide fun k hk _ h' => hk.2 (hg.sub k hk.1 h')

/-- An offset that is the whole truth's value. -/
def tv (t : List Int) : Value := .agg #[.int .i64 (atL t 0), .int .i64 (atL t 1), .int .i64 (atL t 2), .int .i64 (atL t 3)]

/-! Which method is called. -/
theorem mth133 (v : Value) (w : World) : (method 384 80 v "mesta/edge.holds").run Tryz.prog w = .ok (184, v) w := by kernel_rfl
theorem mth135 (v : Value) (w : World) : (method 384 82 v "mesta/edge.holds").run Tryz.prog w = .ok (185, v) w := by kernel_rfl
theorem mth136 (v : Value) (w : World) : (method 384 83 v "mesta/edge.holds").run Tryz.prog w = .ok (186, v) w := by kernel_rfl
theorem mth137 (v : Value) (w : World) : (method 384 84 v "mesta/edge.holds").run Tryz.prog w = .ok (187, v) w := by kernel_rfl
theorem mth139 (v : Value) (w : World) : (method 384 86 v "mesta/edge.holds").run Tryz.prog w = .ok (188, v) w := by kernel_rfl

theorem one_len (c : Cl) : [clV c].length = 1 := rfl

set_option maxRecDepth 100000 in
set_option maxHeartbeats 2000000 in
theorem walk_leaf {x : Edg} (hx : x.Ok) {n : Nat} (hn : x.points = (n : Int)) {s : Bs} {lr bx bc bY bs bw g : Nat} {vx : Value} {all : List Value} {J : (Nat → Prop) → List Value → World → Prop} (sJ : SideV J) (hR : RndT lr all J)
    {own : Nat → Prop} {pre rest : List Value} {W : World} {u : List Int} (hW : WS x n s lr bx bc bY bs bw g vx own W) (hJ : J own pre W) (hu : u.length = n) (hu9 : ∀ i < 4, 0 ≤ atL u i ∧ atL u i ≤ 9) (hall : all = pre ++ (gen (candS x s) (keepC x) 0 u).map tv ++ rest) :
    Calls Tryz.prog 96 #[.agg #[.int .i64 (atL u 0), .int .i64 (atL u 1), .int .i64 (atL u 2), .int .i64 (atL u 3)], .int .i64 (n : Int), .pointer (some ⟨bx, 0, none⟩), .pointer (some ⟨bc, 0, none⟩), .pointer (some ⟨bY, 0, none⟩), .pointer (some ⟨bs, 0, none⟩), .pointer (some ⟨bw, 0, none⟩)] W
      fun e W' => e = .returned (.bool true) ∧ ∃ own', Guar own own' W W' ∧ J own' (pre ++ (gen (candS x s) (keepC x) 0 u).map tv) W' := by
  have hlt := sJ.lt own pre W hJ
  obtain ⟨W1, hW1⟩ : ∃ W1, W1 = W.alloc (.cells #[.int .i64 (atL u 0), .int .i64 (atL u 1), .int .i64 (atL u 2), .int .i64 (atL u 3)] 146) := ⟨_, rfl⟩
  obtain ⟨bt, hbt⟩ : ∃ b, b = W.heap.size := ⟨_, rfl⟩
  have hT1 : Blk bt #[.int .i64 (atL u 0), .int .i64 (atL u 1), .int .i64 (atL u 2), .int .i64 (atL u 3)] 146 W1 := by rw [hW1, hbt]; exact Blk.new _ _ _
  have hB1 : Below W.heap.size W W1 := by rw [hW1]; exact (Below.refl _ W).alloc (Nat.le_refl _) _
  have hw1 := hW.step (Guar.call hB1)
  have hJ1 := sJ.step _ _ _ _ hJ (Keep.call hB1)
  obtain ⟨vc, ⟨hc1, hc2⟩, hcl⟩ := hw1.hC
  obtain ⟨ac, cc, rfl, _, _⟩ := hcl.shape
  have hcn := hcl.len
  have x0 := hw1.hX.1.cell 0
  have y0 := hc1.cell 0
  have b1 : ((n : Int) == (n : Int)) = true := by simp
  have HLT := Lib.hid hlt
  have HR := Lib.hid hR
  have HALL := Lib.hid hall
  have HU := Lib.hid hu
  have HNN := Lib.hid hn
  clear hlt hR hall hu hn
  go_enter Tryz.func96, Tryz.ntmps96
  go_upto_region 1 with fail
  rw [← hW1, ← hbt]
  have hzt : W.heap.size ≤ bt := Nat.le_of_eq hbt.symm
  clear hW1 hbt
  go_wp2_with fail
  go_loopw [19] (fun i wr => ∃ j : Nat, j ≤ x.claims.length ∧ i = .int .i64 j ∧ Hid (∀ c ∈ x.claims.take j, c.holds (atL u) = true) ∧ Below W1.heap.size W1 wr) (fun i _ => x.claims.length - (intOf i).toNat)
  case atStart => exact ⟨0, Nat.zero_le _, rfl, Lib.hid (by simp), Below.refl _ _⟩
  case round =>
    obtain ⟨j, hj, rfl, HP, hB⟩ := hrel
    have hwr := hw1.step (Guar.call hB)
    have hTr := hT1.call hB
    have t0 := hTr.cell 0
    have t1 := hTr.cell 1
    have t2 := hTr.cell 2
    have t3 := hTr.cell 3
    by_cases hlt : j < x.claims.length
    · obtain ⟨gc, o, rfl, hA, hgc⟩ := Elems.addr one_len (by decide) hcl (by omega)
      have d0 := Elems.at one_len (hcl.call hB) j hlt 0 (by decide) _ rfl
      rw [Nat.mul_one, Nat.add_zero] at d0
      obtain ⟨c, hc⟩ : ∃ c, c = x.claims[j] := ⟨_, rfl⟩
      have hcok : c.Ok x.points := by rw [hc]; exact hx.c _ (List.getElem_mem _)
      rw [← hc] at d0
      have HC := Lib.hid hc
      clear hc
      have hk1 := hcok.k
      have hp1 := hcok.p
      rw [HNN.out] at hp1
      have hn4 : n ≤ 4 := by have := hx.p; have := HNN.out; omega
      obtain ⟨pt, hpt⟩ : ∃ pt : Nat, c.point = pt := ⟨c.point.toNat, by omega⟩
      have hpto : c.point.toNat = pt := by omega
      have hp4 : pt < 4 := by omega
      have hkk : c.kind = 1 ∨ c.kind = 2 ∨ c.kind = 3 ∨ c.kind = 4 ∨ c.kind = 5 := by omega
      rcases hkk with kk | kk | kk | kk | kk
      · have hv : clV c = .iface 80 (.agg #[.int .i64 (pt : Int), .int .i64 c.off]) := by unfold clV; rw [if_pos kk]; rw [hpt]
        have hh : c.holds (atL u) = (atL u pt == c.off) := by unfold Cl.holds; rw [if_pos kk]; rw [hpto]; rfl
        rw [hv] at d0
        have hm := mth133
        have HH := Lib.hid hh
        clear hh kk hk1 hp1 hpt hpto hv
        cases hb : c.holds (atL u) with
        | true =>
          rw [HH.out] at hb
          go_wp2_with fail
          refine (stone_c hp4 c.off u _).mono ?_
          rintro e w5 ⟨rfl, hB5⟩
          go_wp2_with fail
          go_roundw
          case rel => exact ⟨j + 1, by omega, by go_num, Lib.hid (fun c2 hc2 => by rw [List.take_succ_eq_append_getElem hlt, List.mem_append, List.mem_singleton] at hc2; rcases hc2 with hc2 | hc2; exact HP.out c2 hc2; rw [hc2, ← HC.out, HH.out]; exact hb), bnx hB hB5⟩
          case measure => simp [intOf]; omega
        | false =>
          have HN0 := Lib.hid (show gen (candS x s) (keepC x) 0 u = [] by unfold gen; rw [if_neg]; intro hk; unfold keepC at hk; rw [List.all_eq_true] at hk; have := hk c (by rw [HC.out]; exact List.getElem_mem _); rw [hb] at this; exact absurd this (by decide))
          rw [HH.out] at hb
          go_wp2_with fail
          refine (stone_c hp4 c.off u _).mono ?_
          rintro e w5 ⟨rfl, hB5⟩
          go_wp2_with fail
          go_ret
          have hBz := bnx (bnx hB1 hB) hB5
          rw [HN0.out]
          exact ⟨rfl, own, Guar.call hBz, by simpa using sJ.step _ _ _ _ hJ (Keep.call hBz)⟩
      · have hco : 0 ≤ c.off ∧ c.off ≤ 9 := by have ha := hcok.a; rw [if_neg (by omega)] at ha; exact ha
        have hce : 0 ≤ c.err ∧ c.err ≤ 9 := by have he := hcok.e; rw [if_pos kk] at he; exact he
        have hv : clV c = .iface 82 (.agg #[.int .i64 (pt : Int), .int .i64 c.off, .int .i64 c.err]) := by unfold clV; rw [if_neg (by omega), if_pos kk]; rw [hpt]
        have hh : c.holds (atL u) = btwB (atL u pt) (c.off - c.err) (c.off + c.err) := by unfold Cl.holds; rw [if_neg (by omega), if_pos kk]; rw [hpto]
        rw [hv] at d0
        have hm := mth135
        have HH := Lib.hid hh
        clear hh kk hk1 hp1 hpt hpto hv
        cases hb : c.holds (atL u) with
        | true =>
          rw [HH.out] at hb
          go_wp2_with fail
          refine (measure_c hp4 hco hce u _).mono ?_
          rintro e w5 ⟨rfl, hB5⟩
          go_wp2_with fail
          go_roundw
          case rel => exact ⟨j + 1, by omega, by go_num, Lib.hid (fun c2 hc2 => by rw [List.take_succ_eq_append_getElem hlt, List.mem_append, List.mem_singleton] at hc2; rcases hc2 with hc2 | hc2; exact HP.out c2 hc2; rw [hc2, ← HC.out, HH.out]; exact hb), bnx hB hB5⟩
          case measure => simp [intOf]; omega
        | false =>
          have HN0 := Lib.hid (show gen (candS x s) (keepC x) 0 u = [] by unfold gen; rw [if_neg]; intro hk; unfold keepC at hk; rw [List.all_eq_true] at hk; have := hk c (by rw [HC.out]; exact List.getElem_mem _); rw [hb] at this; exact absurd this (by decide))
          rw [HH.out] at hb
          go_wp2_with fail
          refine (measure_c hp4 hco hce u _).mono ?_
          rintro e w5 ⟨rfl, hB5⟩
          go_wp2_with fail
          go_ret
          have hBz := bnx (bnx hB1 hB) hB5
          rw [HN0.out]
          exact ⟨rfl, own, Guar.call hBz, by simpa using sJ.step _ _ _ _ hJ (Keep.call hBz)⟩
      · have hv : clV c = .iface 83 (.agg #[.int .i64 (pt : Int), .int .i64 c.off]) := by unfold clV; rw [if_neg (by omega), if_neg (by omega), if_pos kk]; rw [hpt]
        have hh : c.holds (atL u) = decide (atL u pt ≤ c.off) := by unfold Cl.holds; rw [if_neg (by omega), if_neg (by omega), if_pos kk]; rw [hpto]
        rw [hv] at d0
        have hm := mth136
        have HH := Lib.hid hh
        clear hh kk hk1 hp1 hpt hpto hv
        cases hb : c.holds (atL u) with
        | true =>
          rw [HH.out] at hb
          go_wp2_with fail
          refine (within_c hp4 c.off u _).mono ?_
          rintro e w5 ⟨rfl, hB5⟩
          go_wp2_with fail
          go_roundw
          case rel => exact ⟨j + 1, by omega, by go_num, Lib.hid (fun c2 hc2 => by rw [List.take_succ_eq_append_getElem hlt, List.mem_append, List.mem_singleton] at hc2; rcases hc2 with hc2 | hc2; exact HP.out c2 hc2; rw [hc2, ← HC.out, HH.out]; exact hb), bnx hB hB5⟩
          case measure => simp [intOf]; omega
        | false =>
          have HN0 := Lib.hid (show gen (candS x s) (keepC x) 0 u = [] by unfold gen; rw [if_neg]; intro hk; unfold keepC at hk; rw [List.all_eq_true] at hk; have := hk c (by rw [HC.out]; exact List.getElem_mem _); rw [hb] at this; exact absurd this (by decide))
          rw [HH.out] at hb
          go_wp2_with fail
          refine (within_c hp4 c.off u _).mono ?_
          rintro e w5 ⟨rfl, hB5⟩
          go_wp2_with fail
          go_ret
          have hBz := bnx (bnx hB1 hB) hB5
          rw [HN0.out]
          exact ⟨rfl, own, Guar.call hBz, by simpa using sJ.step _ _ _ _ hJ (Keep.call hBz)⟩
      · have hv : clV c = .iface 84 (.agg #[.int .i64 (pt : Int), .int .i64 c.off]) := by unfold clV; rw [if_neg (by omega), if_neg (by omega), if_neg (by omega), if_pos kk]; rw [hpt]
        have hh : c.holds (atL u) = decide (c.off ≤ atL u pt) := by unfold Cl.holds; rw [if_neg (by omega), if_neg (by omega), if_neg (by omega), if_pos kk]; rw [hpto]
        rw [hv] at d0
        have hm := mth137
        have HH := Lib.hid hh
        clear hh kk hk1 hp1 hpt hpto hv
        cases hb : c.holds (atL u) with
        | true =>
          rw [HH.out] at hb
          go_wp2_with fail
          refine (beyond_c hp4 c.off u _).mono ?_
          rintro e w5 ⟨rfl, hB5⟩
          go_wp2_with fail
          go_roundw
          case rel => exact ⟨j + 1, by omega, by go_num, Lib.hid (fun c2 hc2 => by rw [List.take_succ_eq_append_getElem hlt, List.mem_append, List.mem_singleton] at hc2; rcases hc2 with hc2 | hc2; exact HP.out c2 hc2; rw [hc2, ← HC.out, HH.out]; exact hb), bnx hB hB5⟩
          case measure => simp [intOf]; omega
        | false =>
          have HN0 := Lib.hid (show gen (candS x s) (keepC x) 0 u = [] by unfold gen; rw [if_neg]; intro hk; unfold keepC at hk; rw [List.all_eq_true] at hk; have := hk c (by rw [HC.out]; exact List.getElem_mem _); rw [hb] at this; exact absurd this (by decide))
          rw [HH.out] at hb
          go_wp2_with fail
          refine (beyond_c hp4 c.off u _).mono ?_
          rintro e w5 ⟨rfl, hB5⟩
          go_wp2_with fail
          go_ret
          have hBz := bnx (bnx hB1 hB) hB5
          rw [HN0.out]
          exact ⟨rfl, own, Guar.call hBz, by simpa using sJ.step _ _ _ _ hJ (Keep.call hBz)⟩
      · have ho1 := hcok.o
        rw [if_pos kk, HNN.out] at ho1
        obtain ⟨qt, hqt⟩ : ∃ qt : Nat, c.other = qt := ⟨c.other.toNat, by omega⟩
        have hqto : c.other.toNat = qt := by omega
        have hq4 : qt < 4 := by omega
        have hco : -9 ≤ c.off ∧ c.off ≤ 9 := by have ha := hcok.a; rw [if_pos kk] at ha; exact ha
        have hv : clV c = .iface 86 (.agg #[.int .i64 (pt : Int), .int .i64 (qt : Int), .int .i64 c.off]) := by unfold clV; rw [if_neg (by omega), if_neg (by omega), if_neg (by omega), if_neg (by omega)]; rw [hpt, hqt]
        have hh : c.holds (atL u) = decide (atL u pt ≤ atL u qt + c.off) := by unfold Cl.holds; rw [if_neg (by omega), if_neg (by omega), if_neg (by omega), if_neg (by omega)]; rw [hpto, hqto]
        rw [hv] at d0
        have hm := mth139
        have HH := Lib.hid hh
        clear hh kk hk1 hp1 hqt hqto ho1 hpt hpto hv
        cases hb : c.holds (atL u) with
        | true =>
          rw [HH.out] at hb
          go_wp2_with fail
          refine (abreast_c hp4 hq4 hco hu9 _).mono ?_
          rintro e w5 ⟨rfl, hB5⟩
          go_wp2_with fail
          go_roundw
          case rel => exact ⟨j + 1, by omega, by go_num, Lib.hid (fun c2 hc2 => by rw [List.take_succ_eq_append_getElem hlt, List.mem_append, List.mem_singleton] at hc2; rcases hc2 with hc2 | hc2; exact HP.out c2 hc2; rw [hc2, ← HC.out, HH.out]; exact hb), bnx hB hB5⟩
          case measure => simp [intOf]; omega
        | false =>
          have HN0 := Lib.hid (show gen (candS x s) (keepC x) 0 u = [] by unfold gen; rw [if_neg]; intro hk; unfold keepC at hk; rw [List.all_eq_true] at hk; have := hk c (by rw [HC.out]; exact List.getElem_mem _); rw [hb] at this; exact absurd this (by decide))
          rw [HH.out] at hb
          go_wp2_with fail
          refine (abreast_c hp4 hq4 hco hu9 _).mono ?_
          rintro e w5 ⟨rfl, hB5⟩
          go_wp2_with fail
          go_ret
          have hBz := bnx (bnx hB1 hB) hB5
          rw [HN0.out]
          exact ⟨rfl, own, Guar.call hBz, by simpa using sJ.step _ _ _ _ hJ (Keep.call hBz)⟩
    · obtain rfl : j = x.claims.length := by omega
      have HN0 := Lib.hid (show gen (candS x s) (keepC x) 0 u = [u] by unfold gen; rw [if_pos]; unfold keepC; rw [List.all_eq_true]; intro c hc; exact HP.out c (by rw [List.take_length]; exact hc))
      have z0 := hwr.hY.1.cell 0
      have hBz := bnx hB1 hB
      have hJr := sJ.step _ _ _ _ hJ (Keep.call hBz)
      have hp : pre ++ [tv u] <+: all := by rw [HALL.out, HN0.out]; exact List.prefix_append _ _
      have hsz := hBz.size
      have hr := HR.out own pre (tv u) wr wr.heap.size hJr (fun k hk => by have := HLT.out k hk; omega) (Nat.le_refl _) hp
      obtain ⟨fn, tmps, assign, body, hy, hRr⟩ := hr
      have HRR := Lib.hid hRr
      clear hRr hp
      unfold tv at hy
      go_upto_region 8 with fail
      refine (wpIn_wide (n := 9)).1 ?_
      gi_wp2_with fail
      refine HRR.out.mono ?_
      rintro e w9 ⟨own', g1, g2, g3, rfl, hj9⟩
      simp only []
      go_at_K
      gi_wp2
      go_wp2
      go_ret
      have hg : Guar own own' W w9 := (Guar.call hBz).trans ⟨g1, g2, g3⟩
      rw [HN0.out]
      exact ⟨rfl, own', hg, hj9⟩

end Go.Proofs.YtbpfhoihfoojfaaGreatDoor

namespace Go.Proofs.YtbpfhoihfoojfaaGreatDoor
open Go.RowKit

/-- What the walk owes, so many points before the end. -/
def WOk (x : Edg) (n : Nat) (s : Bs) (lr bx bc bY bs bw g : Nat) (vx : Value) (all : List Value) (J : (Nat → Prop) → List Value → World → Prop) (k : Nat) : Prop :=
  ∀ (own : Nat → Prop) (pre rest : List Value) (W : World) (u : List Int) (p : Nat), WS x n s lr bx bc bY bs bw g vx own W → J own pre W → u.length = p → p + k = n → (∀ i < 4, 0 ≤ atL u i ∧ atL u i ≤ 9) → all = pre ++ (gen (candS x s) (keepC x) k u).map tv ++ rest →
    Calls Tryz.prog 96 #[.agg #[.int .i64 (atL u 0), .int .i64 (atL u 1), .int .i64 (atL u 2), .int .i64 (atL u 3)], .int .i64 (p : Int), .pointer (some ⟨bx, 0, none⟩), .pointer (some ⟨bc, 0, none⟩), .pointer (some ⟨bY, 0, none⟩), .pointer (some ⟨bs, 0, none⟩), .pointer (some ⟨bw, 0, none⟩)] W
      fun e W' => e = .returned (.bool true) ∧ ∃ own', Guar own own' W W' ∧ J own' (pre ++ (gen (candS x s) (keepC x) k u).map tv) W'

theorem atL_snoc (u : List Int) (z : Int) (i : Nat) : atL (u ++ [z]) i = if i = u.length then z else atL u i := by
  unfold atL
  rw [List.getD_eq_getElem?_getD, List.getD_eq_getElem?_getD, List.getElem?_append]
  by_cases h : i < u.length
  · rw [if_pos h, if_neg (by omega)]
  · rw [if_neg h]
    by_cases h2 : i = u.length
    · rw [if_pos h2, h2, Nat.sub_self]; rfl
    · rw [if_neg h2, List.getElem?_eq_none (by simp; omega), List.getElem?_eq_none (by omega)]
theorem atL_out {u : List Int} {i : Nat} (h : u.length ≤ i) : atL u i = 0 := by
  unfold atL
  rw [List.getD_eq_getElem?_getD, List.getElem?_eq_none h]; rfl
theorem tvA_zero (u : List Int) : tvA (u ++ [0]) = tvA u := by
  have h : ∀ i, atL (u ++ [0]) i = atL u i := fun i => by
    rw [atL_snoc]
    by_cases e : i = u.length
    · rw [if_pos e, e, atL_out (Nat.le_refl _)]
    · rw [if_neg e]
  unfold tvA
  rw [h, h, h, h]
theorem tvA_at (u : List Int) {p : Nat} (hp : p < 4) : (tvA u)[p]? = some (.int .i64 (atL u p)) := by
  rcases p with _ | _ | _ | _ | p
  all_goals first | rfl | omega
theorem tvA_set {u : List Int} (z m : Int) {p : Nat} (hu : u.length = p) (hp : p < 4) : (tvA (u ++ [z])).setIfInBounds p (.int .i64 m) = tvA (u ++ [m]) := by
  subst hu
  apply Array.ext
  · simp [tvA]
  · intro i h1 h2
    rw [Array.getElem_setIfInBounds (by simpa using h1)]
    have h3 : i < 4 := by simpa [tvA] using h2
    have e1 := tvA_at (u ++ [z]) h3
    have e2 := tvA_at (u ++ [m]) h3
    rw [Array.getElem?_eq_getElem (by simp [tvA]; omega)] at e1 e2
    injection e1 with e1
    injection e2 with e2
    rw [e1, e2, atL_snoc, atL_snoc]
    by_cases h : i = u.length
    · subst h; simp
    · rw [if_neg (by omega), if_neg h, if_neg h]

/-- The truths that begin with u and an offset below m. -/
def part (x : Edg) (s : Bs) (k : Nat) (u : List Int) (m : Int) : List (List Int) := ((rng (gl s u.length) (m - 1)).filter (stepB x.bend u)).flatMap fun z => gen (candS x s) (keepC x) k (u ++ [z])
theorem part_none (x : Edg) (s : Bs) (k : Nat) (u : List Int) : part x s k u (gl s u.length) = [] := by
  unfold part
  rw [rng_none (by omega)]
  rfl
theorem part_succ {x : Edg} {s : Bs} {k : Nat} {u : List Int} {m : Int} (h : gl s u.length ≤ m) : part x s k u (m + 1) = part x s k u m ++ if stepB x.bend u m = true then gen (candS x s) (keepC x) k (u ++ [m]) else [] := by
  unfold part
  have e := rng_snoc (lo := gl s u.length) (hi := m - 1) (by omega)
  rw [show m - 1 + 1 = m by omega] at e
  rw [show m + 1 - 1 = m by omega, e, List.filter_append, List.flatMap_append]
  congr 1
  by_cases hs : stepB x.bend u m = true
  · rw [if_pos hs, List.filter_cons_of_pos hs]; simp
  · rw [if_neg hs, List.filter_cons_of_neg hs]; rfl
theorem prt_all (x : Edg) (s : Bs) (k : Nat) (u : List Int) : part x s k u (gh s u.length + 1) = gen (candS x s) (keepC x) (k + 1) u := by
  unfold part
  rw [show gh s u.length + 1 - 1 = gh s u.length by omega]
  rfl
theorem part_split {x : Edg} {s : Bs} {k : Nat} {u : List Int} {m : Int} (h1 : gl s u.length ≤ m) (h2 : m ≤ gh s u.length) (hs : stepB x.bend u m = true) : ∃ r, gen (candS x s) (keepC x) (k + 1) u = part x s k u m ++ (gen (candS x s) (keepC x) k (u ++ [m]) ++ r) := by
  refine ⟨((rng (m + 1) (gh s u.length)).filter (stepB x.bend u)).flatMap fun z => gen (candS x s) (keepC x) k (u ++ [z]), ?_⟩
  have e1 := part_succ (x := x) (s := s) (k := k) (u := u) h1
  rw [if_pos hs] at e1
  rw [← List.append_assoc, ← e1]
  unfold part
  rw [show m + 1 - 1 = m by omega]
  show ((rng (gl s u.length) (gh s u.length)).filter (stepB x.bend u)).flatMap _ = _
  rw [rng_cut (lo := gl s u.length) (cut := m) (hi := gh s u.length) (by omega) h2, List.filter_append, List.flatMap_append]

theorem Guar.set {o o' : Nat → Prop} {W W' : World} (h : Guar o o' W W') {c : Addr} (hc : W.heap.size ≤ c.block) (v : Value) : Guar o o' W (W'.setCell c v) :=
  ⟨h.sub, fun q hq hn => (Below.heap_setCell W' c v q (by omega)).trans (h.keep q hq hn), by have := h.size; simpa [World.setCell] using this⟩

set_option maxRecDepth 100000 in
set_option maxHeartbeats 2000000 in
theorem walk_step {x : Edg} (hx : x.Ok) {n : Nat} (hn : x.n = n) {s : Bs} (hs : IsBnd x s) {lr bx bc bY bs bw g : Nat} {vx : Value} {all : List Value} {J : (Nat → Prop) → List Value → World → Prop} (sJ : SideV J) {k : Nat}
    (ih : WOk x n s lr bx bc bY bs bw g vx all J k) : WOk x n s lr bx bc bY bs bw g vx all J (k + 1) := by
  intro own pre rest W u p hW hJ hu hpk hu9 hall
  have hlt := sJ.lt own pre W hJ
  have hpn : p < n := by omega
  have hn4 : n ≤ 4 := by have := hx.p; unfold Edg.n at hn; omega
  have hsl : p < s.length := by rw [hs.len, hn]; exact hpn
  have hre := bnd_reach hs (p := p) (by rw [hn]; exact hpn)
  have hb9 := hx.b
  obtain ⟨W1, hW1⟩ : ∃ W1, W1 = W.alloc (.cells #[.int .i64 (atL u 0), .int .i64 (atL u 1), .int .i64 (atL u 2), .int .i64 (atL u 3)] 146) := ⟨_, rfl⟩
  obtain ⟨bt, hbt⟩ : ∃ b, b = W.heap.size := ⟨_, rfl⟩
  have hT1 : Blk bt (tvA (u ++ [0])) 146 W1 := by rw [hW1, hbt, tvA_zero]; exact Blk.new _ _ _
  have hB1 : Below W.heap.size W W1 := by rw [hW1]; exact (Below.refl _ W).alloc (Nat.le_refl _) _
  have hw1 := hW.step (Guar.call hB1)
  have hJ1 := sJ.step _ _ _ _ hJ (Keep.call hB1)
  have hot : ¬ own bt := fun h => by have := hlt bt h; omega
  have x0 := hw1.hX.1.cell 0
  have s0 := hw1.hS.1.cell 0
  obtain ⟨d0, d1⟩ := EB.cells hw1.hE.1 hsl
  have b1 : ((p : Int) == (n : Int)) = false := by simp; omega
  have HLT := Lib.hid hlt
  have HALL := Lib.hid hall
  have HU := Lib.hid hu
  have HPK := Lib.hid hpk
  have HNN := Lib.hid hn
  have HG : Hid (gl s p = gl s u.length ∧ gh s p = gh s u.length) := Lib.hid (by rw [hu]; exact ⟨rfl, rfl⟩)
  clear hlt hall hu hn hpk
  go_enter Tryz.func96, Tryz.ntmps96
  go_upto_region 1 with fail
  rw [← hW1, ← hbt]
  have hzt : W.heap.size ≤ bt := Nat.le_of_eq hbt.symm
  clear hW1 hbt
  go_wp2_with fail
  clear x0 s0 d0 d1
  go_loopw [12] (fun i wr => ∃ (m z : Int) (own1 : Nat → Prop), gl s p ≤ m ∧ m ≤ gh s p + 1 ∧ i = .int .i64 m ∧ Guar own own1 W wr ∧ ¬ own1 bt ∧ Blk bt (tvA (u ++ [z])) 146 wr ∧ Hid (J own1 (pre ++ (part x s k u m).map tv) wr)) (fun i _ => (gh s p + 1 - intOf i).toNat)
  case atStart => exact ⟨gl s p, 0, own, Int.le_refl _, by omega, rfl, Guar.call hB1, hot, hT1, Lib.hid (by rw [HG.out.1, part_none]; simpa using hJ1)⟩
  case round =>
    obtain ⟨m, z, own1, hm1, hm2, rfl, hGu, ho1, hT, HJ⟩ := hrel
    have hWr := hW.step hGu
    have s0 := hWr.hS.1.cell 0
    obtain ⟨d0, d1⟩ := EB.cells hWr.hE.1 hsl
    have x1 := hWr.hX.1.cell 1
    have hbW : W.heap.size ≤ bt := hzt
    by_cases hle : m ≤ gh s p
    · have hm9 : 0 ≤ m ∧ m ≤ 9 := by omega
      have bm : IntKind.i64.wrap (m + 1) = m + 1 := IntWalk.i64_in _ (by omega)
      have hu2 : ∀ i < 4, 0 ≤ atL (u ++ [m]) i ∧ atL (u ++ [m]) i ≤ 9 := fun i hi => by
        rw [atL_snoc]
        by_cases e : i = u.length
        · rw [if_pos e]; exact hm9
        · rw [if_neg e]; exact hu9 i hi
      have ih' := ih
      unfold WOk at ih'
      have bp1 : ((p + 1 : Nat) : Int) = (p : Int) + 1 := by simp
      rcases Nat.eq_zero_or_pos p with hp0 | hp0
      · have hp0l : p ≤ 0 := Nat.le_of_eq hp0
        clear hp0
        have hst : stepB x.bend u m = true := by
          have : u = [] := List.length_eq_zero_iff.1 (by have := HU.out; omega)
          unfold stepB; rw [this]; rfl
        obtain ⟨r, hr⟩ := part_split (x := x) (s := s) (k := k) (u := u) (m := m) (by rw [← HG.out.1]; exact hm1) (by rw [← HG.out.2]; exact hle) hst
        have HSPL := Lib.hid (show all = (pre ++ (part x s k u m).map tv) ++ (gen (candS x s) (keepC x) k (u ++ [m])).map tv ++ (r.map tv ++ rest) by rw [HALL.out, hr]; simp [List.append_assoc])
        clear hr
        have hg0 : decide (0 < p) = false := decide_eq_false (by omega)
        go_wp2_with fail
        go_quiet ((go_at_call 51; refine qt_of (between_q _ _ _ _)))
        have hq : Qt wr (wr.drewN nq) := ⟨nq, rfl⟩
        generalize wr.drewN nq = wq at hq ⊢
        have hTq := hT.qt hq
        have hGq := hGu.trans (Guar.call (own := own1) (hq.below _))
        have HJq := Lib.hid (sJ.step _ _ _ _ HJ.out (Keep.qt hq))
        have f0 := hTq.free p
        have cz : wq.cell? ⟨bt, p, none⟩ = some (.int .i64 z) := by rw [hTq.cell p, tvA_at _ (by omega), atL_snoc, if_pos HU.out.symm]
        have hT2 := hTq.set p (.int .i64 m)
        rw [tvA_set z m HU.out (by omega)] at hT2
        have hGu2 := hGq.set (c := ⟨bt, p, none⟩) hbW (.int .i64 m)
        have hW2 := hW.step hGu2
        have hJ2 := Lib.hid (sJ.step _ _ _ _ HJq.out (Keep.setCell (own := fun q => ¬ own1 q) wq ⟨bt, p, none⟩ (.int .i64 m) ho1))
        clear hWr s0 d1 x1 HJ hT hGu hg0
        go_upto_region 14 with fail
        clear cz f0
        generalize wq.setCell ⟨bt, p, none⟩ (.int .i64 m) = w2 at hT2 hW2 hJ2 hGu2 ⊢
        have hW2w := hW2.hW.1.cell 0
        have t0 : w2.cell? ⟨bt, 0, none⟩ = some (.int .i64 (atL (u ++ [m]) 0)) := hT2.cell 0
        have t1 : w2.cell? ⟨bt, 1, none⟩ = some (.int .i64 (atL (u ++ [m]) 1)) := hT2.cell 1
        have t2 : w2.cell? ⟨bt, 2, none⟩ = some (.int .i64 (atL (u ++ [m]) 2)) := hT2.cell 2
        have t3 : w2.cell? ⟨bt, 3, none⟩ = some (.int .i64 (atL (u ++ [m]) 3)) := hT2.cell 3
        have HS := Lib.hid hst
        clear hst
        go_wp2_with fail
        try rw [← bp1]
        refine (ih' own1 _ _ w2 (u ++ [m]) (p + 1) hW2 hJ2.out (by rw [List.length_append, List.length_singleton, HU.out]) (by have := HPK.out; omega) hu2 HSPL.out).mono ?_
        rintro e w3 ⟨rfl, own3, hG3, hJ3⟩
        obtain ⟨hT3, ho3⟩ := hG3.blk hT2 ho1
        have hGu3 := hGu2.trans hG3
        have hJ3' := Lib.hid (show J own3 (pre ++ (part x s k u (m + 1)).map tv) w3 by rw [part_succ (by rw [← HG.out.1]; exact hm1), if_pos HS.out]; simpa [List.append_assoc] using hJ3)
        clear hJ3 hG3 hT2 hW2 hJ2 hGu2 t0 t1 t2 t3 hW2w
        go_wp2_with fail
        go_roundw
        case rel => exact ⟨m + 1, m, own3, by omega, by omega, by go_num, hGu3, ho3, hT3, hJ3'⟩
        case measure => simp [intOf]; omega
      · obtain ⟨q, hq⟩ : ∃ q, q = p - 1 := ⟨_, rfl⟩
        have bq : IntKind.i64.wrap ((p : Int) - 1) = (q : Int) := by rw [IntWalk.i64_in _ (by omega)]; omega
        have hgp : ((p : Int) > 0) := by omega
        have hqp : q < p := by omega
        have hq4 : q < 4 := by omega
        have HQ := Lib.hid hq
        clear hq
        have huq := hu9 q hq4
        have bd : IntKind.i64.wrap (m - atL u q) = m - atL u q := IntWalk.i64_in _ (by omega)
        have bn : IntKind.i64.wrap (-x.bend) = -x.bend := IntWalk.i64_in _ (by omega)
        have cq : wr.cell? ⟨bt, q, none⟩ = some (.int .i64 (atL u q)) := by
          rw [hT.cell q, tvA_at _ hq4, atL_snoc, if_neg (by have := HU.out; omega)]
        have hse : stepB x.bend u m = btwB (m - atL u q) (-x.bend) x.bend := by
          have h1 := HU.out
          have h2 := HQ.out
          unfold stepB
          rw [decide_eq_false (by intro h; rw [h] at h1; simp at h1; omega), Bool.false_or, show u.length - 1 = q by omega]
        cases hst : btwB (m - atL u q) (-x.bend) x.bend with
        | true =>
          have hst' : stepB x.bend u m = true := hse.trans hst
          obtain ⟨r, hr⟩ := part_split (x := x) (s := s) (k := k) (u := u) (m := m) (by rw [← HG.out.1]; exact hm1) (by rw [← HG.out.2]; exact hle) hst'
          have HSPL := Lib.hid (show all = (pre ++ (part x s k u m).map tv) ++ (gen (candS x s) (keepC x) k (u ++ [m])).map tv ++ (r.map tv ++ rest) by rw [HALL.out, hr]; simp [List.append_assoc])
          have HST := Lib.hid hst'
          clear hr hse hst'
          go_wp2_with fail
          go_quiet ((go_at_call 51; refine qt_of (between_q _ _ _ _)))
          have hq : Qt wr (wr.drewN nq) := ⟨nq, rfl⟩
          generalize wr.drewN nq = wq at hq ⊢
          have hTq := hT.qt hq
          have hGq := hGu.trans (Guar.call (own := own1) (hq.below _))
          have HJq := Lib.hid (sJ.step _ _ _ _ HJ.out (Keep.qt hq))
          have f0 := hTq.free p
          have cz : wq.cell? ⟨bt, p, none⟩ = some (.int .i64 z) := by rw [hTq.cell p, tvA_at _ (by omega), atL_snoc, if_pos HU.out.symm]
          have hT2 := hTq.set p (.int .i64 m)
          rw [tvA_set z m HU.out (by omega)] at hT2
          have hGu2 := hGq.set (c := ⟨bt, p, none⟩) hbW (.int .i64 m)
          have hW2 := hW.step hGu2
          have hJ2 := Lib.hid (sJ.step _ _ _ _ HJq.out (Keep.setCell (own := fun q => ¬ own1 q) wq ⟨bt, p, none⟩ (.int .i64 m) ho1))
          clear hWr s0 d1 x1 HJ hT hGu cq hgp
          go_upto_region 14 with fail
          clear cz f0
          generalize wq.setCell ⟨bt, p, none⟩ (.int .i64 m) = w2 at hT2 hW2 hJ2 hGu2 ⊢
          have hW2w := hW2.hW.1.cell 0
          have t0 : w2.cell? ⟨bt, 0, none⟩ = some (.int .i64 (atL (u ++ [m]) 0)) := hT2.cell 0
          have t1 : w2.cell? ⟨bt, 1, none⟩ = some (.int .i64 (atL (u ++ [m]) 1)) := hT2.cell 1
          have t2 : w2.cell? ⟨bt, 2, none⟩ = some (.int .i64 (atL (u ++ [m]) 2)) := hT2.cell 2
          have t3 : w2.cell? ⟨bt, 3, none⟩ = some (.int .i64 (atL (u ++ [m]) 3)) := hT2.cell 3
          have HS := HST
          clear hst
          go_wp2_with fail
          try rw [← bp1]
          refine (ih' own1 _ _ w2 (u ++ [m]) (p + 1) hW2 hJ2.out (by rw [List.length_append, List.length_singleton, HU.out]) (by have := HPK.out; omega) hu2 HSPL.out).mono ?_
          rintro e w3 ⟨rfl, own3, hG3, hJ3⟩
          obtain ⟨hT3, ho3⟩ := hG3.blk hT2 ho1
          have hGu3 := hGu2.trans hG3
          have hJ3' := Lib.hid (show J own3 (pre ++ (part x s k u (m + 1)).map tv) w3 by rw [part_succ (by rw [← HG.out.1]; exact hm1), if_pos HS.out]; simpa [List.append_assoc] using hJ3)
          clear hJ3 hG3 hT2 hW2 hJ2 hGu2 t0 t1 t2 t3 hW2w
          go_wp2_with fail
          go_roundw
          case rel => exact ⟨m + 1, m, own3, by omega, by omega, by go_num, hGu3, ho3, hT3, hJ3'⟩
          case measure => simp [intOf]; omega
        | false =>
          have hJm := Lib.hid (show J own1 (pre ++ (part x s k u (m + 1)).map tv) wr by rw [part_succ (by rw [← HG.out.1]; exact hm1), if_neg (by rw [hse, hst]; decide), List.append_nil]; exact HJ.out)
          clear hse ih'
          go_wp2_with fail
          go_quiet ((go_at_call 51; refine qt_of (between_q _ _ _ _)))
          have hq : Qt wr (wr.drewN nq) := ⟨nq, rfl⟩
          generalize wr.drewN nq = wq at hq ⊢
          have hTq := hT.qt hq
          have hGq := hGu.trans (Guar.call (own := own1) (hq.below _))
          have HJq := Lib.hid (sJ.step _ _ _ _ hJm.out (Keep.qt hq))
          clear hWr s0 d1 x1 cq HJ hT hGu hJm
          go_wp2_with fail
          go_roundw
          case rel => exact ⟨m + 1, z, own1, by omega, by omega, by go_num, hGq, ho1, hTq, HJq⟩
          case measure => simp [intOf]; omega
    · obtain rfl : m = gh s p + 1 := by omega
      go_wp2_with fail
      go_ret
      refine ⟨rfl, own1, hGu, ?_⟩
      have := HJ.out
      rw [HG.out.2, prt_all] at this
      exact this

end Go.Proofs.YtbpfhoihfoojfaaGreatDoor

namespace Go.Proofs.YtbpfhoihfoojfaaGreatDoor
open Go.RowKit

theorem walk_ok {x : Edg} (hx : x.Ok) {n : Nat} (hn : x.n = n) {s : Bs} (hs : IsBnd x s) {lr bx bc bY bs bw g : Nat} {vx : Value} {all : List Value} {J : (Nat → Prop) → List Value → World → Prop} (sJ : SideV J) (hR : RndT lr all J) : ∀ k, WOk x n s lr bx bc bY bs bw g vx all J k
  | 0 => fun own pre rest W u p hW hJ hu hpk hu9 hall => by
    obtain rfl : p = n := by omega
    exact walk_leaf hx (by have := hx.p; unfold Edg.n at hn; omega) sJ hR hW hJ hu hu9 hall
  | k + 1 => walk_step hx hn hs sJ (walk_ok hx hn hs sJ hR k)

theorem Tryz.info77 : (Tryz.prog.info? 77).map (fun i => (i.zero, i.size, i.bytes)) = some (some .nilIface, 1, 16) := by kernel_rfl
theorem one_iface (t : TypeId) (v : Value) : ∀ u ∈ [Value.iface t v], u.oneCell' = true := by
  intro u hu
  rw [List.mem_singleton] at hu
  subst hu
  rfl
theorem clV_shape (c : Cl) : ∃ t v, clV c = .iface t v := by
  unfold clV
  repeat' split
  all_goals exact ⟨_, _, rfl⟩
theorem bal2 {a w : World} {o : Obj} (h : Below a.heap.size a w) : Below a.heap.size a (w.alloc o) := h.alloc h.size o

/-- What the building of a claim's value reads. -/
def CR (bc b7 : Nat) (vc : Value) (c : Cl) (w : World) : Prop := Blk bc #[vc] 185 w ∧ Blk b7 #[.int .i64 c.kind, .int .i64 c.point, .int .i64 c.other, .int .i64 c.off, .int .i64 c.err] 54 w
theorem CR.call {bc b7 : Nat} {vc : Value} {c : Cl} {w w' : World} (h : CR bc b7 vc c w) (hB : Below w.heap.size w w') : CR bc b7 vc c w' := ⟨h.1.call hB, h.2.call hB⟩
theorem CR.qt {bc b7 : Nat} {vc : Value} {c : Cl} {w w' : World} (h : CR bc b7 vc c w) (q : Qt w w') : CR bc b7 vc c w' := ⟨h.1.qt q, h.2.qt q⟩
theorem flat_cl : ∀ l : List Cl, l.flatMap (fun c => [clV c]) = l.map clV
  | [] => rfl
  | a :: l => by rw [List.flatMap_cons, flat_cl l]; rfl
theorem own_elems {N n : Nat} {w : World} {v : Value} {l : List Cl} (hl : l.length = n) (h : Own N w 77 1 v n (l.map clV)) : Elems (fun c => [clV c]) (fun q => N ≤ q) w v l := by
  subst hl
  have := h.arr
  unfold Elems
  rw [flat_cl]
  exact this

set_option maxRecDepth 100000 in
set_option maxHeartbeats 2000000 in
theorem truths_it {x : Edg} (hx : x.Ok) {A : Nat → Prop} {w : World} {v : Value} {nb : Nat} (h : ClsM A w v x.claims) (hX0 : Blk nb #[.int .i64 x.points, .int .i64 x.bend, v] 24 w) : IterT 95 nb ((truthsF x).map tv) w := by
  intro lr J own W sJ hR hB hon hJ
  have hlt := sJ.lt _ _ _ hJ
  obtain ⟨n, hn⟩ : ∃ n : Nat, x.points = (n : Int) := ⟨x.points.toNat, by have := hx.p; omega⟩
  have hxn : x.n = n := by unfold Edg.n; omega
  obtain ⟨a1, c1, rfl, _, _⟩ := h.shape
  have hm := hx.m
  replace h := (h.wide (A' := fun q => q < w.heap.size) fun q _ hq => hq).below hB fun q hq _ => hq
  have hws := hB.size
  replace hX0 := hX0.below hB hX0.lt
  rw [hn] at hX0
  obtain ⟨W1, hW1⟩ : ∃ W1, W1 = W.alloc (.cells #[.func (.yield lr) #[] #[]] 184) := ⟨_, rfl⟩
  obtain ⟨bY, hbY⟩ : ∃ b, b = W.heap.size := ⟨_, rfl⟩
  have hY1 : Blk bY #[.func (.yield lr) #[] #[]] 184 W1 := by rw [hW1, hbY]; exact Blk.new _ _ _
  have hB1 : Below W.heap.size W W1 := by rw [hW1]; exact (Below.refl _ W).alloc (Nat.le_refl _) _
  have hX1 := hX0.call hB1
  have h1 := h.call hB1
  have HN := Lib.hid hn
  have HXN := Lib.hid hxn
  have HLT := Lib.hid hlt
  have hbz := bounds_z h1 hx
  rw [hn] at hbz
  clear hn hxn hlt
  go_enter Tryz.func95, Tryz.ntmps95
  go_upto_region 1 with fail
  rw [← hW1, ← hbY]
  have hzY : W.heap.size ≤ bY := Nat.le_of_eq hbY.symm
  clear hW1 hbY
  have x0 := hX1.cell 0
  have x1 := hX1.cell 1
  have x2 := hX1.cell 2
  have HBZ := Lib.hid hbz
  clear hbz
  go_wp2_with fail
  clear x0 x1 x2
  refine HBZ.out.mono ?_
  rintro e w2 ⟨v', b, rfl, hB2, (⟨rfl, rfl, hno⟩ | ⟨rfl, s, g, hs, rfl, hgs, hE⟩)⟩
  · have hB3 := bnx hB1 hB2
    have hB4 := bal2 (o := .cells #[.slice none 0 0] 103) hB3
    have ht := bndF_none.1 hno
    go_wp2_with fail
    rw [ht]
    exact bodyPost_ret (v := .tuple #[]) (by simp [results, Tryz.results95]) rfl ⟨⟨_, rfl⟩, own, sJ.step _ _ _ _ hJ (Keep.call hB4)⟩
  · have hX2 := hX1.call hB2
    have hY2 := hY1.call hB2
    have h2 := h1.call hB2
    have hB02 := bnx hB1 hB2
    rw [HXN.out]
    obtain ⟨w3, hw3⟩ : ∃ w3, w3 = w2.alloc (.cells #[.slice (some ⟨g, 0, none⟩) n n] 103) := ⟨_, rfl⟩
    obtain ⟨bs, hbs⟩ : ∃ b, b = w2.heap.size := ⟨_, rfl⟩
    have hS3 : Blk bs #[.slice (some ⟨g, 0, none⟩) n n] 103 w3 := by rw [hw3, hbs]; exact Blk.new _ _ _
    have hB3 : Below w2.heap.size w2 w3 := by rw [hw3]; exact (Below.refl _ w2).alloc (Nat.le_refl _) _
    have hX3 := hX2.call hB3
    have hY3 := hY2.call hB3
    have hE3 := Blk.call hE hB3
    have h3 := h2.call hB3
    have hB03 := bnx hB02 hB3
    go_upto_region 3 with fail
    rw [← hw3, ← hbs]
    have hzs : w2.heap.size ≤ bs := Nat.le_of_eq hbs.symm
    clear hw3 hbs
    obtain ⟨w4, hw4⟩ : ∃ w4, w4 = w3.alloc (.cells #[.slice none 0 0] 185) := ⟨_, rfl⟩
    obtain ⟨bc, hbc⟩ : ∃ b, b = w3.heap.size := ⟨_, rfl⟩
    have hC4 : Blk bc #[.slice none 0 0] 185 w4 := by rw [hw4, hbc]; exact Blk.new _ _ _
    have hB4 : Below w3.heap.size w3 w4 := by rw [hw4]; exact (Below.refl _ w3).alloc (Nat.le_refl _) _
    have hz4 : bc + 1 ≤ w4.heap.size := by rw [hw4, hbc]; simp
    have hX4 := hX3.call hB4
    have h4 := h3.call hB4
    have hB04 := bnx hB03 hB4
    have hB34 := bnx hB3 hB4
    go_upto_region 4 with fail
    rw [← hw4, ← hbc]
    have hzc : w3.heap.size ≤ bc := Nat.le_of_eq hbc.symm
    have hz3 := hB3.size
    have hz2 := hB02.size
    have hx2 := hX4.cell 2
    have hlX := hX3.lt
    have hlY := hY3.lt
    have hlE := Blk.lt hE3
    have hlS := hS3.lt
    clear hw4 hbc
    go_wp2_with fail
    clear hx2
    go_loopw [19] (fun i wr => ∃ (j : Nat) (vc : Value), j ≤ x.claims.length ∧ i = .int .i64 j ∧ Blk bc #[vc] 185 wr ∧ Own (bc + 1) wr 77 1 vc j ((x.claims.take j).map clV) ∧ Below bc w4 wr ∧ bc + 1 ≤ wr.heap.size) (fun i _ => x.claims.length - (intOf i).toNat)
    case atStart => exact ⟨0, _, Nat.zero_le _, rfl, hC4, Own.nil, Below.refl _ _, hz4⟩
    case round =>
      obtain ⟨j, vc, hj, rfl, hC, hO, hBr, hzr⟩ := hrel
      clear hC4
      obtain ⟨av, cv, rfl⟩ := own_slice hO
      by_cases hlt : j < x.claims.length
      · have hr := h4.below hBr fun q hq _ => by omega
        obtain ⟨gc, o, rfl, hA, hgc⟩ := cls_addr hr (by omega)
        obtain ⟨d0, d1, d2, d3, d4⟩ := cls_at hr j hlt
        obtain ⟨c, hc⟩ : ∃ c, c = x.claims[j] := ⟨_, rfl⟩
        rw [← hc] at d0 d1 d2 d3 d4
        have HC := Lib.hid hc
        clear hc
        obtain ⟨ty, vv, hcv⟩ := clV_shape c
        have hOF : ∀ w, Calls Tryz.prog 33 #[.agg #[.int .i64 c.kind, .int .i64 c.point, .int .i64 c.other, .int .i64 c.off, .int .i64 c.err]] w fun e w' => e = .returned (.iface ty vv) ∧ Below w.heap.size w w' := fun w => by rw [← hcv]; exact ofCl_c c w
        have HOF := hOF
        have HCV := Lib.hid hcv
        clear hOF hcv
        obtain ⟨w5, hw5⟩ : ∃ w5, w5 = wr.alloc (.cells #[.int .i64 c.kind, .int .i64 c.point, .int .i64 c.other, .int .i64 c.off, .int .i64 c.err] 54) := ⟨_, rfl⟩
        obtain ⟨b7, hb7⟩ : ∃ b, b = wr.heap.size := ⟨_, rfl⟩
        have hS5 : CR bc b7 (.slice av j cv) c w5 := by rw [hw5, hb7]; exact ⟨hC.alloc _, Blk.new _ _ _⟩
        have hO5 : Own (bc + 1) w5 77 1 (.slice av j cv) j ((x.claims.take j).map clV) := by rw [hw5]; exact hO.alloc _
        have hB5 : Below bc w4 w5 := by rw [hw5]; exact hBr.alloc (by omega) _
        have hz5 : bc + 1 ≤ w5.heap.size := by rw [hw5]; simp; omega
        go_wp2_with fail
        rw [← hw5, ← hb7]
        clear hw5 hb7 d0 d1 d2 d3 d4 hC hO
        refine wp_region_mix2 (.one 0 (.one 1 (.act 2 (.act 3 (.act 4 (.act 5 .fin)))))) 4 (CR bc b7 (.slice av j cv) c) (fun _ => True) (by kernel_rfl) (by kernel_rfl) rfl (by kernel_rfl) (hS5.qt ((Qt.refl _).drewN 1)) (fun wd hqd _ => ?_)
        have hSd := hS5.qt hqd
        refine mix_load2 rfl rfl rfl (.slice av j cv) (fun w' h => by have h : (CR bc b7 (.slice av j cv) c) w' := h; have h0 := h.1.cell 0; go_simp) rfl ?_
        refine mix_load2 rfl rfl rfl (.agg #[.int .i64 c.kind, .int .i64 c.point, .int .i64 c.other, .int .i64 c.off, .int .i64 c.err]) (fun w' h => by have h : (CR bc b7 (.slice av j cv) c) w' := h; have e0 := h.2.cell 0; have e1 := h.2.cell 1; have e2 := h.2.cell 2; have e3 := h.2.cell 3; have e4 := h.2.cell 4; go_simp) rfl ?_
        refine mix_eff2 rfl false rfl (fun K hK => ?_)
        go_simp
        refine (HOF _).mono ?_
        rintro e w6 ⟨rfl, hB6⟩
        have hS6 := hSd.call hB6
        have hO6 := (hO5.qt hqd).call hB6
        have hB56 := bnx (hqd.below _) hB6
        have hz6 := hB56.size
        refine hK _ _ hS6 ?_
        clear hK K
        refine mix_eff2 rfl false rfl (fun K hK => ?_)
        go_simp
        refine hK _ _ (hS6.call ((Below.refl _ w6).alloc (Nat.le_refl _) _)) ?_
        clear hK K
        refine mix_eff2 rfl true rfl (fun K hK => ?_)
        refine step_append_arr rfl _ _ 185 rfl 77 .nilIface 1 16 Tryz.underlying185 Tryz.info77 rfl (by decide) (by decide) (by simp; omega) (hO6.alloc _) rfl (arr_one w6 77 (.iface ty vv)) rfl rfl (one_iface _ _) (by omega) ?_
        intro v7 w7 hown hT
        obtain ⟨a7, c7, rfl⟩ := own_slice hown
        have hC7 := (hS6.1.alloc (.cells #[.iface ty vv] 77)).keep (hT.block _ (by simp; have := hS6.1.lt; omega) (fun e => by have := (World.ownsRow.lt (hO6.alloc (.cells #[.iface ty vv] 77)) _ e).1; omega))
        have hB7 := hT.below2 (B' := bc) (hO6.alloc _) ((hB5.trans (hB56.mono (by omega))).alloc (by omega) _) (by simp; omega) (by omega)
        have c7x := hC7.cell 0
        have f7 := hC7.free 0
        refine hK _ _ trivial ?_
        clear hK K
        refine mix_eff2 rfl true rfl (fun K hK => ?_)
        go_simp
        refine hK _ _ trivial ?_
        clear hK K
        refine mix_done2 ?_
        have hC8 := hC7.set 0 (.slice a7 (j + 1) c7)
        have hB8 := hB7.setCell (p := ⟨bc, 0, none⟩) (Nat.le_refl _) (.slice a7 (j + 1) c7)
        have hO8 : Own (bc + 1) (w7.setCell ⟨bc, 0, none⟩ (.slice a7 (j + 1) c7)) 77 1 (.slice a7 (j + 1) c7) (j + 1) ((x.claims.take (j + 1)).map clV) := by
          rw [List.take_succ_eq_append_getElem hlt, List.map_append, ← HC.out, List.map_singleton, HCV.out]
          exact hown.step fun q _ hq _ => Below.heap_setCell _ _ _ _ (show q ≠ bc by omega)
        have hz8 : bc + 1 ≤ (w7.setCell ⟨bc, 0, none⟩ (.slice a7 (j + 1) c7)).heap.size := by have := hB8.size; omega
        clear hC7 hB7 hown c7x f7 hT
        generalize w7.setCell ⟨bc, 0, none⟩ (.slice a7 (j + 1) c7) = w8 at hC8 hB8 hO8 hz8 ⊢
        go_wp2_with fail
        go_roundw
        case rel => exact ⟨j + 1, _, by omega, by go_num, hC8, hO8, hB8, hz8⟩
        case measure => simp [intOf]; omega
      · obtain rfl : j = x.claims.length := by omega
        rw [List.take_length] at hO
        have hB0r : Below W.heap.size W wr := hB04.trans (hBr.mono (by omega))
        have hC5 := hC
        have hXr := hX4.below hBr (by omega)
        have hYr := (hY3.call hB4).below hBr (by omega)
        have hSr := (hS3.call hB4).below hBr (by omega)
        have hEr : EB g s wr := Blk.below (Blk.call hE3 hB4) hBr (by omega)
        have hcl := own_elems rfl hO
        obtain ⟨w5, hw5⟩ : ∃ w5, w5 = wr.alloc (.cells #[.nilFunc] 186) := ⟨_, rfl⟩
        obtain ⟨bw, hbw⟩ : ∃ b, b = wr.heap.size := ⟨_, rfl⟩
        have hW5 : Blk bw #[.nilFunc] 186 w5 := by rw [hw5, hbw]; exact Blk.new _ _ _
        have hB5 : Below wr.heap.size wr w5 := by rw [hw5]; exact (Below.refl _ wr).alloc (Nat.le_refl _) _
        have hzb : wr.heap.size ≤ bw := Nat.le_of_eq hbw.symm
        go_upto_region 10 with fail
        rw [← hw5, ← hbw]
        clear hw5 hbw
        have f5 := hW5.free 0
        have c5 := hW5.cell 0
        have hsf := fun (W' : World) (fn : Fn) (fs cs : Array Value) (m : Mode) => run_store Tryz.prog W' ⟨bw, 0, none⟩ (.func fn fs cs) m rfl
        go_upto_region 11 with fail
        clear hsf
        have hW6 := hW5.set 0 (.func (.func 96) #[] #[.pointer (some ⟨nb, 0, none⟩), .pointer (some ⟨bc, 0, none⟩), .pointer (some ⟨bY, 0, none⟩), .pointer (some ⟨bs, 0, none⟩), .pointer (some ⟨bw, 0, none⟩)])
        have hB50 := hB0r.trans (hB5.mono (by have := hB0r.size; omega))
        have hB6 : Below W.heap.size W (w5.setCell ⟨bw, 0, none⟩ (.func (.func 96) #[] #[.pointer (some ⟨nb, 0, none⟩), .pointer (some ⟨bc, 0, none⟩), .pointer (some ⟨bY, 0, none⟩), .pointer (some ⟨bs, 0, none⟩), .pointer (some ⟨bw, 0, none⟩)])) := hB50.setCell (p := ⟨bw, 0, none⟩) (by have := hB0r.size; show _ ≤ bw; omega) _
        have hlr := hXr.lt
        have hly := hYr.lt
        have hls := hSr.lt
        have hlc := hC5.lt
        have hle := Blk.lt hEr
        have hLT := HLT.out
        have hX6 := (hXr.call hB5).other (a := ⟨bw, 0, none⟩) (by show nb ≠ bw; omega) (.func (.func 96) #[] #[.pointer (some ⟨nb, 0, none⟩), .pointer (some ⟨bc, 0, none⟩), .pointer (some ⟨bY, 0, none⟩), .pointer (some ⟨bs, 0, none⟩), .pointer (some ⟨bw, 0, none⟩)])
        have hY6 := (hYr.call hB5).other (a := ⟨bw, 0, none⟩) (by show bY ≠ bw; omega) (.func (.func 96) #[] #[.pointer (some ⟨nb, 0, none⟩), .pointer (some ⟨bc, 0, none⟩), .pointer (some ⟨bY, 0, none⟩), .pointer (some ⟨bs, 0, none⟩), .pointer (some ⟨bw, 0, none⟩)])
        have hS6 := (hSr.call hB5).other (a := ⟨bw, 0, none⟩) (by show bs ≠ bw; omega) (.func (.func 96) #[] #[.pointer (some ⟨nb, 0, none⟩), .pointer (some ⟨bc, 0, none⟩), .pointer (some ⟨bY, 0, none⟩), .pointer (some ⟨bs, 0, none⟩), .pointer (some ⟨bw, 0, none⟩)])
        have hC6 := (hC5.call hB5).other (a := ⟨bw, 0, none⟩) (by show bc ≠ bw; omega) (.func (.func 96) #[] #[.pointer (some ⟨nb, 0, none⟩), .pointer (some ⟨bc, 0, none⟩), .pointer (some ⟨bY, 0, none⟩), .pointer (some ⟨bs, 0, none⟩), .pointer (some ⟨bw, 0, none⟩)])
        have hE6 : EB g s (w5.setCell ⟨bw, 0, none⟩ (.func (.func 96) #[] #[.pointer (some ⟨nb, 0, none⟩), .pointer (some ⟨bc, 0, none⟩), .pointer (some ⟨bY, 0, none⟩), .pointer (some ⟨bs, 0, none⟩), .pointer (some ⟨bw, 0, none⟩)])) := Blk.other (Blk.call hEr hB5) (a := ⟨bw, 0, none⟩) (by show g ≠ bw; omega) _
        have hV6 : Elems (fun c => [clV c]) (fun q => bc + 1 ≤ q ∧ q < wr.heap.size) (w5.setCell ⟨bw, 0, none⟩ (.func (.func 96) #[] #[.pointer (some ⟨nb, 0, none⟩), .pointer (some ⟨bc, 0, none⟩), .pointer (some ⟨bY, 0, none⟩), .pointer (some ⟨bs, 0, none⟩), .pointer (some ⟨bw, 0, none⟩)])) (.slice av x.claims.length cv) x.claims :=
          ((hcl.wide (A' := fun q => bc + 1 ≤ q ∧ q < wr.heap.size) fun q hq hq2 => ⟨hq, hq2⟩).call hB5).step (by simp [World.setCell]) fun q hq hq2 => Below.heap_setCell _ _ _ _ (show q ≠ bw by omega)
        have hw1 := hB1.size
        have hw2 := hB02.size
        generalize w5.setCell ⟨bw, 0, none⟩ (.func (.func 96) #[] #[.pointer (some ⟨nb, 0, none⟩), .pointer (some ⟨bc, 0, none⟩), .pointer (some ⟨bY, 0, none⟩), .pointer (some ⟨bs, 0, none⟩), .pointer (some ⟨bw, 0, none⟩)]) = w6 at hW6 hB6 hX6 hY6 hS6 hC6 hE6 hV6 ⊢
        have hJ6 := sJ.step _ _ _ _ hJ (Keep.call hB6)
        have hWS : WS x n s lr nb bc bY bs bw g (.slice a1 x.claims.length c1) own w6 :=
          ⟨⟨hX6, hon⟩, ⟨_, ⟨hC6, fun h => by have := hLT _ h; omega⟩, hV6.wide fun q hq _ h => by have := hLT _ h; omega⟩, ⟨hY6, fun h => by have := hLT _ h; omega⟩, ⟨hS6, fun h => by have := hLT _ h; omega⟩, ⟨hE6, fun h => by have := hLT _ h; omega⟩, ⟨hW6, fun h => by have := hLT _ h; omega⟩⟩
        have hg := gen_bounds hs
        rw [HXN.out] at hg
        have hwk := walk_ok hx HXN.out hs sJ hR n own [] [] w6 [] 0 hWS hJ6 rfl (by omega) (fun i _ => by show (0 : Int) ≤ 0 ∧ (0 : Int) ≤ 9; omega) (by rw [hg, List.nil_append, List.append_nil])
        rw [hg, List.nil_append] at hwk
        have HWK := Lib.hid hwk
        have z0 : w6.cell? ⟨bw, 0, none⟩ = some (.func (.func 96) #[] #[.pointer (some ⟨nb, 0, none⟩), .pointer (some ⟨bc, 0, none⟩), .pointer (some ⟨bY, 0, none⟩), .pointer (some ⟨bs, 0, none⟩), .pointer (some ⟨bw, 0, none⟩)]) := hW6.cell 0
        clear hwk hg hWS hX6 hY6 hS6 hC6 hE6 hV6 hLT
        go_wp2_with fail
        refine HWK.out.mono ?_
        rintro e w7 ⟨rfl, own', hG7, hJ7⟩
        go_wp2_with fail
        go_end0
        exact ⟨⟨_, rfl⟩, own', hJ7⟩

theorem truths_c {x : Edg} {w : World} {v : Value} : Calls Tryz.prog 68 #[.agg #[.int .i64 x.points, .int .i64 x.bend, v]] w fun e w' => e = .returned (.func (.func 95) #[] #[.pointer (some ⟨w.heap.size, 0, none⟩)]) ∧ w' = w.alloc (.cells #[.int .i64 x.points, .int .i64 x.bend, v] 24) := by
  go_enter Tryz.func68, Tryz.ntmps68
  go_wp2
  go_ret
  exact ⟨rfl, rfl⟩

end Go.Proofs.YtbpfhoihfoojfaaGreatDoor

namespace Go.Proofs.YtbpfhoihfoojfaaGreatDoor
open Go.RowKit
attribute [local go_sem] Oper.semAt_some

/-- The truth that came last. -/
def lastT (rs : List (List Int)) : Nat → List Int
  | 0 => [-1]
  | k + 1 => rs.getD k []
theorem tvA_eq {a b : List Int} (h : ∀ i < 4, atL a i = atL b i) : tvA a = tvA b := by
  unfold tvA
  rw [h 0 (by decide), h 1 (by decide), h 2 (by decide), h 3 (by decide)]
theorem ne_run (a b : List Int) (w : World) : (binOp .neq 146 (.agg (tvA a)) (.agg (tvA b))).run Tryz.prog w = .ok (.bool (!(atL a 0 == atL b 0 && (atL a 1 == atL b 1 && (atL a 2 == atL b 2 && (atL a 3 == atL b 3)))))) w := by
  obtain ⟨i, hi⟩ : ∃ i, Tryz.prog.info? 3 = some i := by
    have := Tryz.info3
    cases h : Tryz.prog.info? 3 with
    | none => rw [h] at this; cases this
    | some i => exact ⟨i, rfl⟩
  have hc : Tryz.prog.cellsOf 3 = 1 := by kernel_rfl
  rw [run_neq_struct, run_equalIn_array w 9999 _ _ Tryz.underlying146 hi, hc]
  by_cases h0 : atL a 0 = atL b 0 <;> by_cases h1 : atL a 1 = atL b 1 <;> by_cases h2 : atL a 2 = atL b 2 <;> by_cases h3 : atL a 3 = atL b 3 <;> simp [go_sem, tvA, Op.eqItems, List.range_succ, h0, h1, h2, h3]
theorem truth_len {x : Edg} {t : List Int} (h : t ∈ truthsF x) : t.length = x.n := (mem_truthsF.1 h).len
theorem flat_len_le {α β : Type} {f : α → List β} {m : Nat} : ∀ l : List α, (∀ a ∈ l, (f a).length ≤ m) → (l.flatMap f).length ≤ l.length * m
  | [], _ => by simp
  | a :: l, h => by
    have h1 := h a (List.mem_cons_self ..)
    have h2 := flat_len_le l fun b hb => h b (List.mem_cons_of_mem _ hb)
    rw [List.flatMap_cons, List.length_append, List.length_cons, Nat.succ_mul]
    omega
theorem gen_len {cand : List Int → List Int} {keep : List Int → Bool} (hc : ∀ t, (cand t).length ≤ 10) : ∀ {k : Nat} {t : List Int}, (gen cand keep k t).length ≤ 10 ^ k
  | 0, t => by unfold gen; split <;> simp
  | k + 1, t => by
    unfold gen
    refine Nat.le_trans (flat_len_le (m := 10 ^ k) _ fun a _ => gen_len hc) ?_
    rw [Nat.pow_succ, Nat.mul_comm]
    exact Nat.mul_le_mul_left _ (hc t)
theorem truths_len {x : Edg} (hx : x.Ok) : (truthsF x).length ≤ 10000 := by
  have hn : x.n ≤ 4 := by have := hx.p; unfold Edg.n; omega
  refine Nat.le_trans (gen_len fun _ => by simp [rng]) ?_
  exact Nat.pow_le_pow_right (by decide) hn (n := 10)
theorem last_ne {x : Edg} (hx : x.Ok) {k : Nat} (hk : k < (truthsF x).length) : (atL (truthsF x)[k] 0 == atL (lastT (truthsF x) k) 0 && (atL (truthsF x)[k] 1 == atL (lastT (truthsF x) k) 1 && (atL (truthsF x)[k] 2 == atL (lastT (truthsF x) k) 2 && (atL (truthsF x)[k] 3 == atL (lastT (truthsF x) k) 3)))) = false := by
  rw [Bool.eq_false_iff]
  intro h
  simp only [Bool.and_eq_true, beq_iff_eq] at h
  obtain ⟨h0, h1, h2, h3⟩ := h
  have ht := mem_truthsF.1 (List.getElem_mem hk)
  have hn : 1 ≤ x.n ∧ x.n ≤ 4 := by have := hx.p; unfold Edg.n; omega
  cases k with
  | zero =>
    have := ht.reach 0 (by omega)
    rw [h0] at this
    exact absurd this.1 (by show ¬ (0 : Int) ≤ -1; omega)
  | succ k =>
    have hk1 : k < (truthsF x).length := by omega
    have hu := mem_truthsF.1 (List.getElem_mem hk1)
    have e : lastT (truthsF x) (k + 1) = (truthsF x)[k] := by
      show (truthsF x).getD k [] = _
      rw [List.getD_eq_getElem?_getD, List.getElem?_eq_getElem hk1]; rfl
    rw [e] at h0 h1 h2 h3
    have hl := ht.len
    have heq := atL_ext (ht.len.trans hu.len.symm) fun p hp => by
      have hp4 : p = 0 ∨ p = 1 ∨ p = 2 ∨ p = 3 := by omega
      rcases hp4 with rfl | rfl | rfl | rfl <;> assumption
    have := (List.getElem_inj (truthsF_nodup x)).1 heq
    omega

/-- What the count has come to. -/
def CG (x : Edg) (bn bl : Nat) (k : Nat) (W : World) : Prop := Blk bn #[.int .i64 (k : Int)] 3 W ∧ Blk bl (tvA (lastT (truthsF x) k)) 146 W

set_option maxRecDepth 100000 in
set_option maxHeartbeats 2000000 in
theorem count_c {A : Nat → Prop} {w : World} {x : Edg} {v : Value} (h : ClsM A w v x.claims) (hx : x.Ok) :
    Calls Tryz.prog 43 #[.agg #[.int .i64 x.points, .int .i64 x.bend, v]] w fun e w' => e = .returned (.int .i64 ((truthsF x).length : Int)) ∧ Below w.heap.size w w' := by
  obtain ⟨a1, c1, rfl, _, _⟩ := h.shape
  obtain ⟨w3, hw3⟩ : ∃ w3, w3 = ((w.alloc (.cells #[.int .i64 x.points, .int .i64 x.bend, .slice a1 x.claims.length c1] 24)).alloc (.cells #[.int .i64 0] 3)).alloc (.cells #[.int .i64 (-1), .int .i64 0, .int .i64 0, .int .i64 0] 146) := ⟨_, rfl⟩
  obtain ⟨b1, hb1⟩ : ∃ b, b = w.heap.size := ⟨_, rfl⟩
  have hX3 : Blk b1 #[.int .i64 x.points, .int .i64 x.bend, .slice a1 x.claims.length c1] 24 w3 := by rw [hw3, hb1]; exact ((Blk.new w _ _).alloc _).alloc _
  have hN3 : Blk (b1 + 1) #[.int .i64 0] 3 w3 := by rw [hw3, hb1]; exact (blk_at (by simp) _ _).alloc _
  have hL3 : Blk (b1 + 2) #[.int .i64 (-1), .int .i64 0, .int .i64 0, .int .i64 0] 146 w3 := by rw [hw3, hb1]; exact blk_at (by simp) _ _
  have hz3 : b1 + 3 ≤ w3.heap.size := by rw [hw3, hb1]; simp
  have hz3' : w3.heap.size ≤ b1 + 3 := by rw [hw3, hb1]; simp
  have hB3 : Below w.heap.size w w3 := by rw [hw3]; exact bal2 (bal2 ((Below.refl _ w).alloc (Nat.le_refl _) _))
  have h3 := h.call hB3
  refine (callsIn_wide (n := 9)).1 (callsIn_of_wp_marks Tryz.func43 rfl trivial (wpIn_wide.2 ?_))
  simp only [Tryz.ntmps43, List.size_toArray, List.length_cons, List.length_nil, Nat.reduceAdd, Nat.reduceSub, Array.replicate_succ, Array.replicate_zero, List.push_toArray, List.append_toArray, List.nil_append, List.cons_append]
  go_upto_region 3 with fail
  rw [← hw3, ← hb1]
  have hbw : w.heap.size ≤ b1 := Nat.le_of_eq hb1.symm
  clear hw3 hb1
  have c0 := hX3.cell 0
  have c1' := hX3.cell 1
  have c2 := hX3.cell 2
  go_wp2_with (go_at_call 68; refine truths_c.mono ?_; rintro e wz ⟨rfl, rfl⟩)
  clear c0 c1' c2
  obtain ⟨W0, hW0⟩ : ∃ W0, W0 = w3.alloc (.cells #[.int .i64 x.points, .int .i64 x.bend, .slice a1 x.claims.length c1] 24) := ⟨_, rfl⟩
  obtain ⟨nb, hnb⟩ : ∃ nb, nb = w3.heap.size := ⟨_, rfl⟩
  have hNb : Blk nb #[.int .i64 x.points, .int .i64 x.bend, .slice a1 x.claims.length c1] 24 W0 := by rw [hW0, hnb]; exact Blk.new _ _ _
  have hzn : b1 + 3 ≤ nb := by omega
  have hB0 : Below w3.heap.size w3 W0 := by rw [hW0]; exact (Below.refl _ w3).alloc (Nat.le_refl _) _
  rw [← hW0, ← hnb]
  have hN0 := hN3.call hB0
  have hL0 := hL3.call hB0
  have h0 := h3.call hB0
  have hBw := bnx hB3 hB0
  have hnl := hNb.lt
  clear hW0 hnb
  have hF : ∀ q, (q = b1 + 1 ∨ q = b1 + 2) → q < W0.heap.size ∧ q ≠ nb := fun q h => by omega
  have hG : ∀ pre (W W' : World), CG x (b1 + 1) (b1 + 2) pre W → W.heap.size ≤ W'.heap.size → (∀ q, (q = b1 + 1 ∨ q = b1 + 2) → W'.heap[q]? = W.heap[q]?) → CG x (b1 + 1) (b1 + 2) pre W' :=
    fun pre W W' h _ hk => ⟨h.1.keep (hk _ (.inl rfl)), h.2.keep (hk _ (.inr rfl))⟩
  have hI0 : RI W0 nb (fun q => q = b1 + 1 ∨ q = b1 + 2) (CG x (b1 + 1) (b1 + 2)) (fun q => q < W0.heap.size ∧ q ≠ nb) 0 W0 :=
    ⟨Keep.refl _ _, fun q h1 h2 => ⟨h1, h2⟩, fun q h => h.1, hN0, hL0⟩
  have hfn : ∀ args w, (callFunc 95 args).run Tryz.prog w = .ok (.enter 95 args) w := fun args w => by go_simp
  refine wp_rangeA (f := 95) (nb := nb) (f₀ := tv) (L := truthsF x) (a₁ := ?a1) (o₁ := fun r => .cells (tvA r) 146) rfl rfl hfn hNb.lt (truths_it hx h0 hNb) (RI W0 nb (fun q => q = b1 + 1 ∨ q = b1 + 2) (CG x (b1 + 1) (b1 + 2))) (RI.side hF hG) (fun h => h.2 rfl) hI0 ?assign ?body ?done
  case assign =>
    intro l r W b K hb hK
    unfold tvA at hK
    unfold tv
    gi_wp2
    rw [← hb]
    exact hK
  case body =>
    intro l own k hk W h b hI hoh hh hob hbk
    refine wpIn_block ?_
    have hne := last_ne hx hk
    have hT : Blk b (tvA (truthsF x)[k]) 146 W := hbk
    have hCn := hI.g.1
    have hCl := hI.g.2
    have hnr := fun w => ne_run (truthsF x)[k] (lastT (truthsF x) k) w
    have hb1 : b ≠ b1 + 1 := fun e => hob (hI.low _ (by omega) (by omega))
    have hb2 : b ≠ b1 + 2 := fun e => hob (hI.low _ (by omega) (by omega))
    rw [hne] at hnr
    obtain ⟨r, hr⟩ : ∃ r, r = (truthsF x)[k] := ⟨_, rfl⟩
    obtain ⟨u, hu⟩ : ∃ u, u = lastT (truthsF x) k := ⟨_, rfl⟩
    rw [← hr] at hT hnr ⊢
    rw [← hu] at hCl hnr
    have HR := Lib.hid hr
    have bk : IntKind.i64.wrap ((k : Int) + 1) = (k : Int) + 1 := IntWalk.i64_in _ (by have := truths_len hx; omega)
    clear hr hu hne
    unfold tvA at hnr
    have n0 := hCn.cell 0
    have fn0 := hCn.free 0
    have t0 : W.cell? ⟨b, 0, none⟩ = some (.int .i64 (atL r 0)) := hT.cell 0
    have t1 : W.cell? ⟨b, 1, none⟩ = some (.int .i64 (atL r 1)) := hT.cell 1
    have t2 : W.cell? ⟨b, 2, none⟩ = some (.int .i64 (atL r 2)) := hT.cell 2
    have t3 : W.cell? ⟨b, 3, none⟩ = some (.int .i64 (atL r 3)) := hT.cell 3
    have l0 : W.cell? ⟨b1 + 2, 0, none⟩ = some (.int .i64 (atL u 0)) := hCl.cell 0
    have l1 : W.cell? ⟨b1 + 2, 1, none⟩ = some (.int .i64 (atL u 1)) := hCl.cell 1
    have l2 : W.cell? ⟨b1 + 2, 2, none⟩ = some (.int .i64 (atL u 2)) := hCl.cell 2
    have l3 : W.cell? ⟨b1 + 2, 3, none⟩ = some (.int .i64 (atL u 3)) := hCl.cell 3
    have g0 := hCl.free 0
    have g1 := hCl.free 1
    have g2 := hCl.free 2
    have g3 := hCl.free 3
    gi_wp2_with fail
    have h12 : b1 + 1 ≠ b1 + 2 := by omega
    have h21 : b1 + 2 ≠ b1 + 1 := by omega
    have hA := ((((hCn.set 0 (.int .i64 ((k : Int) + 1))).other (a := ⟨b1 + 2, 0, none⟩) h12 (.int .i64 (atL r 0))).other (a := ⟨b1 + 2, 1, none⟩) h12 (.int .i64 (atL r 1))).other (a := ⟨b1 + 2, 2, none⟩) h12 (.int .i64 (atL r 2))).other (a := ⟨b1 + 2, 3, none⟩) h12 (.int .i64 (atL r 3))
    have hBB := ((((hCl.other (a := ⟨b1 + 1, 0, none⟩) h21 (.int .i64 ((k : Int) + 1))).set 0 (.int .i64 (atL r 0))).set 1 (.int .i64 (atL r 1))).set 2 (.int .i64 (atL r 2))).set 3 (.int .i64 (atL r 3))
    have hKp := ((((Keep.setCell (own := fun q => q = b1 + 1 ∨ q = b1 + 2) W ⟨b1 + 1, 0, none⟩ (.int .i64 ((k : Int) + 1)) (.inl rfl)).trans (Keep.setCell _ ⟨b1 + 2, 0, none⟩ (.int .i64 (atL r 0)) (.inr rfl))).trans (Keep.setCell _ ⟨b1 + 2, 1, none⟩ (.int .i64 (atL r 1)) (.inr rfl))).trans (Keep.setCell _ ⟨b1 + 2, 2, none⟩ (.int .i64 (atL r 2)) (.inr rfl))).trans (Keep.setCell _ ⟨b1 + 2, 3, none⟩ (.int .i64 (atL r 3)) (.inr rfl))
    have hla : lastT (truthsF x) (k + 1) = r := by
      show (truthsF x).getD k [] = r
      rw [List.getD_eq_getElem?_getD, List.getElem?_eq_getElem hk, HR.out]; rfl
    obtain ⟨k1, k2⟩ := RI.next (G' := CG x (b1 + 1) (b1 + 2)) hF hI (pre' := k + 1) hKp ⟨by simpa using hA, by rw [hla]; simpa [tvA] using hBB⟩
    exact ⟨own, fun q _ h => h, k1, rfl, k2⟩
  case done =>
    intro D own W hI hD hDl hDo
    obtain ⟨h1, h2⟩ := hI.g
    have hBW : Below w.heap.size w W := hBw.trans ⟨hI.keep.os, hI.keep.tape, hI.keep.output, hI.keep.size, fun q hq => hI.keep.block q (by omega) (by omega)⟩
    have hBE : Below w.heap.size w (W.putObj D (.deferred none)) := hBW.trans ⟨rfl, rfl, rfl, by simp, fun q hq => World.putObj_heap_other (by omega)⟩
    have y0 := h1.cell 0
    go_wp2_with fail
    refine ⟨by simp, .inl ⟨_, _, rfl, run_takeDeferred hD, ?_⟩⟩
    exact ⟨_, results_tmp rfl _ _ _, rfl, hBE⟩

set_option maxHeartbeats 1000000 in
theorem count25_c {A : Nat → Prop} {w : World} {x : Edg} {v : Value} (h : ClsM A w v x.claims) :
    Calls Tryz.prog 16 #[.agg #[.int .i64 x.points, .int .i64 x.bend, v]] w fun e w' => e = .returned (.tuple #[.int .i64 (countX x).1, .int .i64 (countX x).2]) ∧ Below w.heap.size w w' := by
  obtain ⟨a1, c1, rfl, hc1, hm1⟩ := h.shape
  obtain ⟨w1, hw1⟩ : ∃ w1, w1 = w.alloc (.cells #[.int .i64 x.points, .int .i64 x.bend, .slice a1 x.claims.length c1] 24) := ⟨_, rfl⟩
  obtain ⟨b1, hb1⟩ : ∃ b, b = w.heap.size := ⟨_, rfl⟩
  have hX : Blk b1 #[.int .i64 x.points, .int .i64 x.bend, .slice a1 x.claims.length c1] 24 w1 := by rw [hw1, hb1]; exact blk_at rfl _ _
  have hB : Below w.heap.size w w1 := by rw [hw1]; exact (Below.refl _ w).alloc (Nat.le_refl _) _
  have h1 := h.call (hB)
  go_enter Tryz.func16, Tryz.ntmps16
  go_upto_region 1 with fail
  rw [← hw1, ← hb1]
  clear hw1 hb1
  have c0 := hX.cell 0
  have c1' := hX.cell 1
  have c2 := hX.cell 2
  go_wp2_with fail
  refine (check_c h1).mono ?_
  rintro e w2 ⟨rfl, hB2⟩
  have hX2 := hX.call hB2
  have h2 := h1.call hB2
  clear c0 c1' c2
  have c0 := hX2.cell 0
  have c1' := hX2.cell 1
  have c2 := hX2.cell 2
  by_cases hck : checkX x = 0
  · have hx := checkX_zero.1 hck
    have hb : (checkX x != 0) = false := by rw [hck]; rfl
    have he : countX x = (((truthsF x).length : Int), 0) := by unfold countX; rw [if_neg (not_not_intro hck)]
    have HE := Lib.hid he
    clear he hck
    go_wp2_with fail
    refine (count_c h2 hx).mono ?_
    rintro e w3 ⟨rfl, hB3⟩
    go_wp2_with fail
    go_ret2
    rw [HE.out]
    exact ⟨rfl, bnx (bnx hB hB2) hB3⟩
  · have hb : (checkX x != 0) = true := by simpa using hck
    have he : countX x = (0, checkX x) := by unfold countX; rw [if_pos hck]
    have HE := Lib.hid he
    clear he hck
    go_wp2_with fail
    go_ret2
    rw [HE.out]
    exact ⟨rfl, bnx hB hB2⟩

set_option maxRecDepth 100000 in
set_option maxHeartbeats 1000000 in
theorem bounds27_c {A : Nat → Prop} {w : World} {x : Edg} {v : Value} (h : ClsM A w v x.claims) :
    Calls Tryz.prog 18 #[.agg #[.int .i64 x.points, .int .i64 x.bend, v]] w fun e w' => ∃ v', e = .returned (.tuple #[v', .int .i64 (boundsX x).2]) ∧ RgsM (fun q => w.heap.size ≤ q) w' v' (boundsX x).1 ∧ Below w.heap.size w w' := by
  obtain ⟨a1, c1, rfl, hc1, hm1⟩ := h.shape
  obtain ⟨w1, hw1⟩ : ∃ w1, w1 = w.alloc (.cells #[.int .i64 x.points, .int .i64 x.bend, .slice a1 x.claims.length c1] 24) := ⟨_, rfl⟩
  obtain ⟨b1, hb1⟩ : ∃ b, b = w.heap.size := ⟨_, rfl⟩
  have hX : Blk b1 #[.int .i64 x.points, .int .i64 x.bend, .slice a1 x.claims.length c1] 24 w1 := by rw [hw1, hb1]; exact blk_at rfl _ _
  have hB : Below w.heap.size w w1 := by rw [hw1]; exact (Below.refl _ w).alloc (Nat.le_refl _) _
  have h1 := h.call (hB)
  go_enter Tryz.func18, Tryz.ntmps18
  go_upto_region 1 with fail
  rw [← hw1, ← hb1]
  clear hw1 hb1
  have c0 := hX.cell 0
  have c1' := hX.cell 1
  have c2 := hX.cell 2
  go_wp2_with fail
  refine (check_c h1).mono ?_
  rintro e w2 ⟨rfl, hB2⟩
  have hX2 := hX.call hB2
  have h2 := h1.call hB2
  clear c0 c1' c2
  have c0 := hX2.cell 0
  have c1' := hX2.cell 1
  have c2 := hX2.cell 2
  by_cases hck : checkX x = 0
  · have hx := checkX_zero.1 hck
    have hb : (checkX x != 0) = false := by rw [hck]; rfl
    have HCK := Lib.hid hck
    clear hck
    go_wp2_with fail
    refine (bounds_z h2 hx).mono ?_
    rintro e w3 ⟨v', b, rfl, hB3, (⟨rfl, rfl, hno⟩ | ⟨rfl, s, g, hs, rfl, hgs, hE⟩)⟩
    · have he : boundsX x = ([], 12) := by unfold boundsX; rw [if_neg (not_not_intro HCK.out), hno]
      have HE := Lib.hid he
      clear he hno
      go_wp2_with fail
      go_ret2
      rw [HE.out]
      exact ⟨_, rfl, rgs_nil _ _, bnx (bnx hB hB2) hB3⟩
    · have he : boundsX x = (s, 0) := by unfold boundsX; rw [if_neg (not_not_intro HCK.out), hs.eq]
      have HE := Lib.hid he
      have hsl := hs.len
      have hBa := bnx (bnx hB hB2) hB3
      obtain ⟨n, hn⟩ : ∃ n, n = x.n := ⟨_, rfl⟩
      have hn4 : n ≤ 4 := by have := hx.p; rw [hn]; unfold Edg.n; omega
      rw [← hn] at hsl ⊢
      have hsl1 : s.length ≤ n := by omega
      have hsl2 : n ≤ s.length := by omega
      have HSL := Lib.hid hsl
      obtain ⟨N, hN⟩ : ∃ N, N = w3.heap.size := ⟨_, rfl⟩
      have hgN : g < N := by rw [hN]; exact Blk.lt hE
      have hNs : N ≤ w3.heap.size := Nat.le_of_eq hN
      have hNw : w.heap.size ≤ N := by have := hBa.size; omega
      clear he hn hsl hN
      go_wp2_with fail
      go_loopw [7, 24] (fun vo vi wr => ∃ j : Nat, j ≤ n ∧ vi = .int .i64 j ∧ Own N wr 59 2 vo j ((s.take j).flatMap rcells) ∧ Below N w3 wr ∧ N ≤ wr.heap.size) (fun _ vi _ => n - (intOf vi).toNat)
      case atStart => exact ⟨0, Nat.zero_le _, rfl, Own.nil, Below.refl _ _, hNs⟩
      case round =>
        obtain ⟨j, hj, rfl, hO, hBr, hz⟩ := hrel
        by_cases hlt : j < n
        · have hEr : EB g s wr := Blk.below hE hBr hgN
          obtain ⟨d0, d1⟩ := hEr.cells (p := j) (by omega)
          obtain ⟨av, cv, rfl⟩ := own_slice hO
          obtain ⟨w5, hw5⟩ : ∃ w5, w5 = wr.alloc (.cells #[.int .i64 (gl s j), .int .i64 (gh s j)] 107) := ⟨_, rfl⟩
          obtain ⟨b9, hb9⟩ : ∃ b, b = wr.heap.size := ⟨_, rfl⟩
          have hT : Blk b9 #[.int .i64 (gl s j), .int .i64 (gh s j)] 107 w5 := by rw [hw5, hb9]; exact Blk.new _ _ _
          have hO5 : Own N w5 59 2 (.slice av j cv) j ((s.take j).flatMap rcells) := by rw [hw5]; exact hO.alloc _
          have hB5 : Below N w3 w5 := by rw [hw5]; exact hBr.alloc hz _
          have hz5 : N ≤ w5.heap.size := by rw [hw5]; simp; omega
          go_upto_region 11 with fail
          rw [← hw5, ← hb9]
          clear hw5 hb9 d0 d1 hO
          have e0 := hT.cell 0
          have e1 := hT.cell 1
          have ha := Own.arr (own_lit w5 59 2 #[.int .i64 (gl s j), .int .i64 (gh s j)] 1 rfl (by omega))
          go_wp2_with (at_builtin; go_loud (refine wpList_append_arr rfl _ _ 48 rfl 59 _ 2 16 Tryz.underlying48 Tryz.info59 rfl (by decide) (by decide) (by simp; omega) (hO5.alloc _) rfl ha rfl rfl (rcells_one (gl s j, gh s j)) (by omega) ?_; intro v' w7 hown hT7))
          have hB7 := hT7.below2 (B' := N) (hO5.alloc _) (hB5.alloc (by omega) _) (by simp; omega) (Nat.le_refl _)
          go_roundw
          case rel =>
            refine ⟨j + 1, by omega, by go_num, ?_, hB7, by have := hT7.size; simp at this; omega⟩
            have hjs : j < s.length := by omega
            have e : (gl s j, gh s j) = s[j] := by
              have e : s.getD j (0, 0) = s[j] := by rw [List.getD_eq_getElem?_getD, List.getElem?_eq_getElem hjs]; rfl
              unfold gl gh
              rw [e]
            rw [List.take_succ_eq_append_getElem hjs, List.flatMap_append, ← e]
            simpa [rcells] using hown
          case measure => simp [intOf]; omega
        · obtain rfl : j = n := by omega
          rw [List.take_of_length_le hsl1] at hO
          go_wp2_with fail
          go_ret2
          rw [HE.out]
          refine ⟨_, rfl, ?_, hBa.trans (hBr.mono hNw)⟩
          exact (Own.rgs hO HSL.out).wide fun q hq _ => Nat.le_trans hNw hq
  · have hb : (checkX x != 0) = true := by simpa using hck
    have he : boundsX x = ([], checkX x) := by unfold boundsX; rw [if_pos hck]
    have HE := Lib.hid he
    clear he hck
    go_wp2_with fail
    go_ret2
    rw [HE.out]
    exact ⟨_, rfl, rgs_nil _ _, bnx hB hB2⟩

end Go.Proofs.YtbpfhoihfoojfaaGreatDoor

