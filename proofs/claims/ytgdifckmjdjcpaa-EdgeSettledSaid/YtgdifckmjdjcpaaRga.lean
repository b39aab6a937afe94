/- The law of a range over a function, where each round stores its value in a new cell; conditions: as said. -/
import Derived.Test.YtgdifckmjdjcpaaEdgR
namespace Go.Proofs.Ytgdifckmjdjcpaa
open Go.RowKit

/-- The same, counted. -/
structure SideN (J : (Nat → Prop) → Nat → World → Prop) : Prop where
  lt : ∀ own pre W, J own pre W → ∀ k, own k → k < W.heap.size
  step : ∀ own pre W W', J own pre W → Keep (fun k => ¬ own k) W W' → J own pre W'
/-- How the body of a round is left. -/
def BodyEndN (I : (Nat → Prop) → Nat → World → Prop) (own : Nat → Prop) (h : Nat) (n : Nat) (W : World) (e : Exit) (_ : Act) (W' : World) : Prop :=
  ∃ own', (∀ k, k < h → own' k → own k) ∧ Keep own W W' ∧ e = .normal ∧ I own' n W'
theorem prefix_at {α β : Type} {f : α → β} {L : List α} {pre : List β} {v : β} (h : pre ++ [v] <+: L.map f) : ∃ hk : pre.length < L.length, v = f L[pre.length] := by
  obtain ⟨t, ht⟩ := h
  have h1 := congrArg List.length ht
  simp at h1
  have hk : pre.length < L.length := by omega
  refine ⟨hk, ?_⟩
  have h2 : (L.map f)[pre.length]? = some v := by rw [← ht]; simp
  rw [List.getElem?_map, List.getElem?_eq_getElem hk] at h2
  injection h2 with h2
  exact h2.symm

set_option maxRecDepth 100000 in
theorem wp_rangeA {α : Type} {f₀ : α → Value} {L : List α} {ps : Array Tmp} {assign body : Code} {Q : Exit → Act → World → Prop} {a : Act} {w : World} {g : Operand} {f nb : Nat} {own : Nat → Prop}
    (hg : a.eval g = .func (.func f) #[] #[.pointer (some ⟨nb, 0, none⟩)]) (hps : ps.size = 1) (hf : ∀ args w, (callFunc f args).run Try.prog w = .ok (.enter f args) w) (hnl : nb < w.heap.size) (hit : IterT f nb (L.map f₀) w)
    (I : (Nat → Prop) → Nat → World → Prop) (sI : SideN I) (hnb : ¬ own nb) (h0 : I own 0 w)
    (a₁ : α → Nat → Act) (o₁ : α → Obj)
    (hassign : ∀ (l : Nat) (r : α) (W : World) (b : Nat) (K : Act → World → Prop), b = W.heap.size → K (a₁ r b) (W.alloc (o₁ r)) →
      assign.wpIn (Fence.wide.inRound l) 8 Try.prog (Exit.then K (fun _ _ _ => False)) { tmps := (ps.zip #[f₀ r]).foldl (fun t (p, v) => t.setIfInBounds p v) a.tmps, defers := [] } W)
    (hbody : ∀ (l : Nat) (own : Nat → Prop) (k : Nat) (hk : k < L.length) (W : World) (h b : Nat), I own k W → (∀ q, own q → q < h) → h ≤ W.heap.size → ¬ own b → W.heap[b]? = some (o₁ L[k]) →
      body.wpIn (Fence.wide.inRound l) 8 Try.prog (BodyEndN I own h (k + 1) W) (a₁ L[k] b) W)
    (hdone : ∀ (D : Nat) (own : Nat → Prop) (W : World), I own L.length W → W.heap[D]? = some (.deferred (some [])) → w.heap.size ≤ D → ¬ own D → Q .normal { a with defers := { target := .collected D, args := #[] } :: a.defers } W) :
    (Code.rangeFunc g ps assign body).wp Try.prog Q a w := by
  refine (wpIn_wide (n := 9)).1 (wpIn_rangeFunc ?_)
  intro fn hfn
  obtain ⟨rec, hrec⟩ : ∃ rec : LoopState → Option Code → Loop, rec = fun st pe => { state := st, pending := pe, fn, tmps := a.tmps, params := ps, assign, body, defers := w.heap.size } := ⟨_, rfl⟩
  obtain ⟨W1, hW1⟩ : ∃ W1, (w.alloc (.deferred (some []))).alloc (.loop (rec .ready none)) = W1 := ⟨_, rfl⟩
  have hB1 : Below w.heap.size w W1 := by rw [← hW1]; exact ((Below.refl _ w).alloc (Nat.le_refl _) _).alloc (by simp) _
  have hL1 : W1.heap[w.heap.size + 1]? = some (.loop (rec .ready none)) := by
    rw [← hW1]; have := World.alloc_heap_new (w.alloc (.deferred (some []))) (.loop (rec .ready none)); rwa [World.size_alloc] at this
  have hK1 : W1.heap[w.heap.size]? = some (.deferred (some [])) := by
    rw [← hW1]; exact (Below.heap_alloc _ _ _ (by simp)).trans (World.alloc_heap_new w _)
  have hI1 : I own 0 W1 := sI.step own 0 w W1 h0 (Keep.call hB1)
  have hlt0 := sI.lt own 0 w h0
  refine ⟨w.heap.size + 1, [{ target := .collected w.heap.size, args := #[] }], W1, { target := .fn (.func f) #[.pointer (some ⟨nb, 0, none⟩)], args := #[.func (.yield (w.heap.size + 1)) #[] #[]] }, W1, f,
    #[.func (.yield (w.heap.size + 1)) #[] #[], .pointer (some ⟨nb, 0, none⟩)], W1, ?_, ?_, fun _ _ => trivial, ?_, fun _ => by omega, ?_⟩
  · rw [← hW1, hrec]; exact run_enterLoop_outer _ _ _ _ _
  · simp only [resolve, hg]
    simp [go_sem]
  · simp [invoke, go_sem, hf]
  · obtain ⟨J, hJ⟩ : ∃ J : (Nat → Prop) → List Value → World → Prop, J = fun own2 pre W => ∃ own, (∀ k, own2 k ↔ (own k ∨ k = w.heap.size + 1 ∨ k = w.heap.size)) ∧ ¬ own (w.heap.size + 1) ∧ ¬ own w.heap.size ∧ I own pre.length W ∧
        W.heap[w.heap.size + 1]? = some (.loop (rec .ready none)) ∧ W.heap[w.heap.size]? = some (.deferred (some [])) := ⟨_, rfl⟩
    have sJ : SideV J := by
      rw [hJ]
      refine ⟨fun o2 pre W ⟨o, he, _, _, hi, hl, hk⟩ k hk2 => ?_, fun o2 pre W W' ⟨o, he, n1, n2, hi, hl, hk⟩ hs => ⟨o, he, n1, n2, sI.step o _ W W' hi (hs.mono fun k _ hn h => hn ((he k).2 (.inl h))), ?_, ?_⟩⟩
      · rcases (he k).1 hk2 with h | rfl | rfl
        · exact sI.lt o _ W hi k h
        · exact (Array.getElem?_eq_some_iff.1 hl).1
        · exact (Array.getElem?_eq_some_iff.1 hk).1
      · exact (hs.block _ (Array.getElem?_eq_some_iff.1 hl).1 (fun h => h ((he _).2 (.inr (.inl rfl))))).trans hl
      · exact (hs.block _ (Array.getElem?_eq_some_iff.1 hk).1 (fun h => h ((he _).2 (.inr (.inr rfl))))).trans hk
    have hR : RndT (w.heap.size + 1) (L.map f₀) J := by
      intro o2 pre v W h hj hlt hh hp
      rw [hJ] at hj
      obtain ⟨o, he, n1, n2, hi, hl, hk⟩ := hj
      obtain ⟨hkL, rfl⟩ := prefix_at hp
      have hl1 : w.heap.size + 1 < h := hlt _ ((he _).2 (.inr (.inl rfl)))
      have hl0 : w.heap.size < h := by omega
      have hy := run_yield (P := Try.prog) (args := #[f₀ L[pre.length]]) hl (by rw [hrec]; exact hps.symm)
      rw [hrec] at hy
      obtain ⟨Wa, hWa⟩ : ∃ Wa, Wa = W.alloc (o₁ L[pre.length]) := ⟨_, rfl⟩
      have hsa : Wa.heap.size = W.heap.size + 1 := by rw [hWa]; simp
      have hKa : ∀ (o : Nat → Prop), Keep o W Wa := fun o => by rw [hWa]; exact Keep.alloc _ _
      have hla : Wa.heap[w.heap.size + 1]? = some (.loop (rec .ready none)) := ((hKa (fun _ => False)).block _ (by omega) id).trans hl
      have hka : Wa.heap[w.heap.size]? = some (.deferred (some [])) := ((hKa (fun _ => False)).block _ (by omega) id).trans hk
      have hba : Wa.heap[W.heap.size]? = some (o₁ L[pre.length]) := by rw [hWa]; exact World.alloc_heap_new W _
      refine ⟨fn, _, assign, body, hy, roundIn_of_wpIn hfn (hassign _ L[pre.length] W _ _ rfl ⟨_, run_beginRound (by rw [← hWa]; exact hla) (by rw [hrec]), ?_⟩)⟩
      rw [← hWa]
      obtain ⟨W2, hW2⟩ : ∃ W2, W2 = Wa.putObj (w.heap.size + 1) (.loop { rec .ready none with state := .busy }) := ⟨_, rfl⟩
      rw [← hW2]
      have hs2 : W2.heap.size = Wa.heap.size := by rw [hW2]; simp
      have hk2 : ∀ (o : Nat → Prop), o (w.heap.size + 1) → Keep o Wa W2 := fun o ho => by rw [hW2]; exact Keep.putObj _ _ _ ho
      have hl2 : W2.heap[w.heap.size + 1]? = some (.loop { rec .ready none with state := .busy }) := by rw [hW2]; exact World.putObj_heap_same (by omega)
      have hi2 : I o pre.length W2 := sI.step o _ Wa W2 (sI.step o _ W Wa hi (hKa _)) (hk2 _ n1)
      have hb2 : W2.heap[W.heap.size]? = some (o₁ L[pre.length]) := ((hk2 (fun k => k = w.heap.size + 1) rfl).block _ (by omega) (by omega)).trans hba
      refine wpIn_mono (hbody _ o pre.length hkL W2 h W.heap.size hi2 (fun k hk => hlt k ((he k).2 (.inl hk))) (by omega) (fun ho => by have := hlt _ ((he _).2 (.inl ho)); omega) hb2) ?_
      rintro e a3 W3 ⟨o', ho', hkp, rfl, hend⟩
      have hl3 : W3.heap[w.heap.size + 1]? = some (.loop { rec .ready none with state := .busy }) := (hkp.block _ (by omega) n1).trans hl2
      have hk3 : W3.heap[w.heap.size]? = some (.deferred (some [])) := (hkp.block _ (by omega) n2).trans (((hk2 (fun k => k = w.heap.size + 1) rfl).block _ (by omega) (by omega)).trans hka)
      have n1' : ¬ o' (w.heap.size + 1) := fun h => n1 (ho' _ (by omega) h)
      have n2' : ¬ o' w.heap.size := fun h => n2 (ho' _ (by omega) h)
      have fin : ∀ (jump : Option Code), ∃ W4, (Instr.endRound (w.heap.size + 1) jump).run Try.prog W3 = .ok (.bool jump.isNone) W4 ∧ W4.heap[w.heap.size + 1]? = some (.loop (rec (if jump.isNone then .ready else .done) jump)) ∧
          W4.heap[w.heap.size]? = some (.deferred (some [])) ∧ Keep (fun k => k = w.heap.size + 1) W3 W4 := fun jump => by
        have := run_endRound (P := Try.prog) jump hl3
        rw [hrec] at this ⊢
        exact ⟨_, this, World.putObj_heap_same (Array.getElem?_eq_some_iff.1 hl3).1, (World.putObj_heap_other (by omega)).trans hk3, Keep.putObj _ _ _ rfl⟩
      have hs3 := hkp.size
      have big : ∀ W4, Keep (fun k => k = w.heap.size + 1) W3 W4 → (∀ k, k < h → (o' k ∨ k = w.heap.size + 1 ∨ k = w.heap.size) → o2 k) ∧ (∀ k, k < h → ¬ o2 k → W4.heap[k]? = W.heap[k]?) ∧ W.heap.size ≤ W4.heap.size := fun W4 h4 => by
        have hs4 := h4.size
        refine ⟨fun k hk ho => (he k).2 (ho.imp (ho' k hk) id), fun k hk hn => ?_, by omega⟩
        have e1 : k ≠ w.heap.size + 1 := fun e => hn ((he k).2 (.inr (.inl e)))
        have e2 : ¬ o k := fun e => hn ((he k).2 (.inl e))
        exact (h4.block k (by omega) e1).trans ((hkp.block k (by omega) e2).trans (((hk2 (fun k => k = w.heap.size + 1) rfl).block k (by omega) e1).trans ((hKa (fun _ => False)).block k (by omega) id)))
      obtain ⟨W4, hr, hl4, hk4, h4⟩ := fin none
      obtain ⟨g1, g2, g3⟩ := big W4 h4
      refine ⟨_, _, hr, fun k => o' k ∨ k = w.heap.size + 1 ∨ k = w.heap.size, g1, g2, g3, rfl, ?_⟩
      rw [hJ]
      have hlen : (pre ++ [f₀ L[pre.length]]).length = pre.length + 1 := by simp
      exact ⟨o', fun k => Iff.rfl, n1', n2', by rw [hlen]; exact sI.step _ _ _ _ hend (h4.mono fun k _ e => by subst e; exact n1'), hl4, hk4⟩
    have hj1 : J (fun k => own k ∨ k = w.heap.size + 1 ∨ k = w.heap.size) [] W1 := by
      rw [hJ]
      exact ⟨own, fun k => Iff.rfl, fun h => by have := hlt0 _ h; omega, fun h => by have := hlt0 _ h; omega, hI1, hL1, hK1⟩
    have hcall := hit (w.heap.size + 1) J _ W1 sJ hR hB1 (fun h => by rcases h with h | h | h; exact hnb h; omega; omega) hj1
    refine CallsIn.mono (callsIn_wide.2 hcall) ?_
    rintro e W' ⟨⟨v, rfl⟩, o2, hj⟩
    rw [hJ] at hj
    obtain ⟨o, he, n1, n2, hi, hl, hk⟩ := hj
    rw [List.length_map] at hi
    have hend := run_endLoop (P := Try.prog) hl (by rw [hrec]; simp)
    refine ⟨none, _, by rw [hrec] at hend; exact hend, ?_⟩
    exact hdone w.heap.size o _ (sI.step _ _ _ _ hi (Keep.putObj _ _ _ n1)) ((World.putObj_heap_other (by omega)).trans hk) (Nat.le_refl _) n2

/-- What stands between the rounds. -/
structure RI (w0 : World) (nb : Nat) (F : Nat → Prop) (G : Nat → World → Prop) (own : Nat → Prop) (pre : Nat) (W : World) : Prop where
  keep : Keep (fun k => k = nb ∨ F k) w0 W
  low : ∀ k, k < w0.heap.size → k ≠ nb → own k
  lt : ∀ k, own k → k < W.heap.size
  g : G pre W
theorem RI.side {w0 : World} {nb : Nat} {F : Nat → Prop} {G : Nat → World → Prop} (hF : ∀ k, F k → k < w0.heap.size ∧ k ≠ nb) (hG : ∀ pre W W', G pre W → W.heap.size ≤ W'.heap.size → (∀ k, F k → W'.heap[k]? = W.heap[k]?) → G pre W') : SideN (RI w0 nb F G) := by
  refine ⟨fun own pre W h => h.lt, fun own pre W W' h hk => ?_⟩
  have ho : ∀ k, own k → W'.heap[k]? = W.heap[k]? := fun k hko => hk.block k (h.lt k hko) (fun hn => hn hko)
  refine ⟨⟨hk.os.trans h.keep.os, hk.tape.trans h.keep.tape, hk.output.trans h.keep.output, Nat.le_trans h.keep.size hk.size, fun k hkw hn => ?_⟩, h.low, fun k hko => Nat.lt_of_lt_of_le (h.lt k hko) hk.size, hG _ _ _ h.g hk.size fun k hf => ho k (h.low k (hF k hf).1 (hF k hf).2)⟩
  exact (ho k (h.low k hkw (fun e => hn (.inl e)))).trans (h.keep.block k hkw hn)
theorem RI.next {w0 : World} {nb : Nat} {F : Nat → Prop} {G G' : Nat → World → Prop} (hF : ∀ k, F k → k < w0.heap.size ∧ k ≠ nb) {own : Nat → Prop} {pre pre' : Nat} {W W' : World} (h : RI w0 nb F G own pre W) (hk : Keep F W W') (hg : G' pre' W') : Keep own W W' ∧ RI w0 nb F G' own pre' W' := by
  refine ⟨hk.mono fun k _ hf => h.low k (hF k hf).1 (hF k hf).2, ?_, h.low, fun k hko => Nat.lt_of_lt_of_le (h.lt k hko) hk.size, hg⟩
  exact ⟨hk.os.trans h.keep.os, hk.tape.trans h.keep.tape, hk.output.trans h.keep.output, Nat.le_trans h.keep.size hk.size, fun k hkw hn => (hk.block k (Nat.lt_of_lt_of_le hkw h.keep.size) (fun hf => hn (.inr hf))).trans (h.keep.block k hkw hn)⟩


end Go.Proofs.Ytgdifckmjdjcpaa
