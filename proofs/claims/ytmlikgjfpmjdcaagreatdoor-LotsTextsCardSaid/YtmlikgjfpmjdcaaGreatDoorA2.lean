/- The contract of CommonsOf; conditions: as said at each. -/
import Derived.Test.YtmlikgjfpmjdcaaGreatDoorA1

/- The contract of CommonsOf; conditions: as in Hand. -/
namespace Go.Proofs.YtmlikgjfpmjdcaaGreatDoor
open Go.RowKit

theorem cells2_at {w : World} {b : Nat} {x y : Value} {t : TypeId} (h : w.heap[b]? = some (.cells #[x, y] t (0, 0))) :
    w.cell? ⟨b, 0, none⟩ = some x ∧ w.cell? ⟨b, 1, none⟩ = some y ∧ w.frozen? ⟨b, 0, none⟩ = false ∧ w.frozen? ⟨b, 1, none⟩ = false := by
  refine ⟨?_, ?_, ?_, ?_⟩
  · rw [World.cell?, h]; rfl
  · rw [World.cell?, h]; rfl
  · rw [World.frozen?, h]; rfl
  · rw [World.frozen?, h]; rfl

/-- What holds of the commons in the making, jm mountains and jv villages having come. -/
structure Making (w : World) (hb n : Nat) (wr : World) (jm jv k : Nat) (vm vv : Value) (ms : List Int) (vs : List Vil) (ls : List Value) : Prop where
  res : wr.heap[w.heap.size]? = some (.cells #[.slice none 0 0, .slice none 0 0] 25 (0, 0))
  box : wr.heap[w.heap.size + 1]? = some (.cells #[vm, vv] 25 (0, 0))
  om : Own (w.heap.size + 2) wr 3 1 vm jm (I64 ms)
  ov : Own (w.heap.size + 2) wr 43 3 vv jv (vcells vs ls)
  apart : ∀ b, vm.ownBlock = some b → vv.ownBlock ≠ some b
  vl : vs.length = jv
  ll : ls.length = jv
  li : ∀ i (a : i < ls.length) (b : i < vs.length), Ints (fun b => w.heap.size + 2 ≤ b ∧ vm.ownBlock ≠ some b ∧ vv.ownBlock ≠ some b) wr ls[i] vs[i].likes
  hand : Hnd wr hb k
  only : w.grownBy wr (some hb)
  hlt : hb < w.heap.size
  bears : ∀ x ∈ ms, 0 ≤ x ∧ x ≤ 99
  vil : ∀ v ∈ vs, 1 ≤ v.hearths ∧ v.hearths ≤ 50 ∧ 0 ≤ v.herd ∧ v.herd ≤ 60 ∧ PermOf n v.likes

section
variable {w wr : World} {hb n jm jv k : Nat} {vm vv : Value} {ms : List Int} {vs : List Vil} {ls : List Value}

theorem Making.size (h : Making w hb n wr jm jv k vm vv ms vs ls) : w.heap.size + 2 ≤ wr.heap.size := by
  have := (Array.getElem?_eq_some_iff.1 h.box).1
  omega

theorem Making.step (h : Making w hb n wr jm jv k vm vv ms vs ls) {w' : World} {k' : Nat} (hs : wr.heap.size ≤ w'.heap.size) (hb' : ∀ i, i ≠ hb → i < wr.heap.size → w'.heap[i]? = wr.heap[i]?)
    (hh : Hnd w' hb k') (ho : w.grownBy w' (some hb)) : Making w hb n w' jm jv k' vm vv ms vs ls := by
  have hz := h.size
  have hl := h.hlt
  exact ⟨(hb' _ (by omega) (by omega)).trans h.res, (hb' _ (by omega) (by omega)).trans h.box, Own.step h.om fun i _ h1 h2 => hb' i (by omega) h2, Own.step h.ov fun i _ h1 h2 => hb' i (by omega) h2,
    h.apart, h.vl, h.ll, fun i a b => (h.li i a b).step hs fun i h1 h2 => hb' i (by omega) h2, hh, ho, hl, h.bears, h.vil⟩

theorem Making.dealt (h : Making w hb n wr jm jv k vm vv ms vs ls) {w' : World} {k' : Nat} (hg : wr.grownBy w' (some hb)) (hh : Hnd w' hb k') : Making w hb n w' jm jv k' vm vv ms vs ls :=
  h.step hg.size (fun i hi hl => hg.block i hl (fun e => by injection e with e; exact hi e)) hh (only_trans h.only hg)
theorem Making.call (h : Making w hb n wr jm jv k vm vv ms vs ls) {w' : World} (hB : Below wr.heap.size wr w') : Making w hb n w' jm jv k vm vv ms vs ls :=
  h.step hB.size (fun i _ hl => hB.block i hl) (h.hand.call hB) (only_then h.only hB)

/-- A mountain has been appended, and the new list stored. -/
theorem Making.mountain (h : Making w hb n wr jm jv k vm vv ms vs ls) {w' : World} {vm' : Value} {x : Int} (hx : 0 ≤ x ∧ x ≤ 99) (ho : Own (w.heap.size + 2) w' 3 1 vm' (jm + 1) (I64 ms ++ [.int .i64 x]))
    (ht : Turned wr w' vm vm') : Making w hb n (w'.setCell ⟨w.heap.size + 1, 0, none⟩ vm') (jm + 1) jv k vm' vv (ms ++ [x]) vs ls := by
  have hz := h.size
  have hl := h.hlt
  have hs := ht.size
  have hkeep : ∀ i, i < wr.heap.size → vm.ownBlock ≠ some i → i ≠ w.heap.size + 1 → (w'.setCell ⟨w.heap.size + 1, 0, none⟩ vm').heap[i]? = wr.heap[i]? := fun i hi hne h1 =>
    (Below.heap_setCell _ _ _ _ h1).trans (ht.block i hi hne)
  have hm : ∀ i, vm.ownBlock = some i → w.heap.size + 2 ≤ i := fun i hi => (World.ownsRow.lt h.om i hi).1
  have hv : ∀ i, vv.ownBlock = some i → w.heap.size + 2 ≤ i ∧ i < wr.heap.size := fun i hi => World.ownsRow.lt h.ov i hi
  have hpl : ∀ i, vm'.ownBlock = some i → vm.ownBlock = some i ∨ i = wr.heap.size := fun i hi => by
    rcases ht.place with e | e
    · exact .inl (e ▸ hi)
    · exact .inr (Option.some.inj (hi.symm.trans e))
  refine ⟨?_, ?_, ?_, ?_, ?_, h.vl, h.ll, ?_, ?_, ?_, hl, ?_, h.vil⟩
  · rw [hkeep _ (by omega) (fun e => by have := hm _ e; omega) (by omega)]; exact h.res
  · have h2 : w'.heap[w.heap.size + 1]? = some (.cells #[vm, vv] 25 (0, 0)) := (ht.block _ (by omega) (fun e => by have := hm _ e; omega)).trans h.box
    simp only [World.setCell, Array.getElem?_modify, h2]
    simp
  · rw [I64_append]
    exact Own.step ho fun i _ h1 _ => Below.heap_setCell _ _ _ _ (show i ≠ w.heap.size + 1 by omega)
  · exact Own.step h.ov fun i hi h1 h2 => hkeep i h2 (fun e => h.apart i e hi) (by omega)
  · intro b hb1 hb2
    rcases hpl b hb1 with e | e
    · exact h.apart b e hb2
    · have := (hv b hb2).2; omega
  · intro i a b
    refine (((h.li i a b).wide (A' := fun b => w.heap.size + 2 ≤ b ∧ vm.ownBlock ≠ some b ∧ vv.ownBlock ≠ some b ∧ vm'.ownBlock ≠ some b) fun c hc hl => ⟨hc.1, hc.2.1, hc.2.2, fun e => ?_⟩).step
      (by simp [World.setCell]; omega) fun c hc hl => hkeep c hl hc.2.1 (by omega)).wide fun c hc _ => ⟨hc.1, hc.2.2.2, hc.2.2.1⟩
    rcases hpl c e with e | e
    · exact hc.2.1 e
    · omega
  · exact (h.hand.step hs fun i hi => ht.block i (by omega) (fun e => by have := hm _ e; omega)).setCell (by show hb < w.heap.size + 1; omega) _
  · refine only_setCell ?_ (by show w.heap.size ≤ w.heap.size + 1; omega) _
    exact ⟨ht.os.trans h.only.os, ht.tape.trans h.only.tape, ht.output.trans h.only.output, Nat.le_trans h.only.size hs, fun i hi hne => (ht.block i (by omega) (fun e => by have := hm _ e; omega)).trans (h.only.block i hi hne)⟩
  · intro y hy
    rcases List.mem_append.1 hy with hy | hy
    · exact h.bears y hy
    · rw [List.mem_singleton] at hy; subst hy; exact hx

/-- A village has been appended, and the new list stored. -/
theorem Making.village (h : Making w hb n wr jm jv k vm vv ms vs ls) {w' : World} {vv' vl : Value} {x : Vil} (hx : 1 ≤ x.hearths ∧ x.hearths ≤ 50 ∧ 0 ≤ x.herd ∧ x.herd ≤ 60 ∧ PermOf n x.likes)
    (hli : Ints (fun b => w.heap.size + 2 ≤ b ∧ vm.ownBlock ≠ some b ∧ vv.ownBlock ≠ some b) wr vl x.likes)
    (ho : Own (w.heap.size + 2) w' 43 3 vv' (jv + 1) (vcells vs ls ++ [.int .i64 x.hearths, .int .i64 x.herd, vl]))
    (ht : Turned wr w' vv vv') : Making w hb n (w'.setCell ⟨w.heap.size + 1, 1, none⟩ vv') jm (jv + 1) k vm vv' ms (vs ++ [x]) (ls ++ [vl]) := by
  have hz := h.size
  have hl := h.hlt
  have hs := ht.size
  have hkeep : ∀ i, i < wr.heap.size → vv.ownBlock ≠ some i → i ≠ w.heap.size + 1 → (w'.setCell ⟨w.heap.size + 1, 1, none⟩ vv').heap[i]? = wr.heap[i]? := fun i hi hne h1 =>
    (Below.heap_setCell _ _ _ _ h1).trans (ht.block i hi hne)
  have hm : ∀ i, vv.ownBlock = some i → w.heap.size + 2 ≤ i := fun i hi => (World.ownsRow.lt h.ov i hi).1
  have hv : ∀ i, vm.ownBlock = some i → w.heap.size + 2 ≤ i ∧ i < wr.heap.size := fun i hi => World.ownsRow.lt h.om i hi
  have hpl : ∀ i, vv'.ownBlock = some i → vv.ownBlock = some i ∨ i = wr.heap.size := fun i hi => by
    rcases ht.place with e | e
    · exact .inl (e ▸ hi)
    · exact .inr (Option.some.inj (hi.symm.trans e))
  have hll : ls.length = vs.length := h.ll.trans h.vl.symm
  refine ⟨?_, ?_, ?_, ?_, ?_, by simp [h.vl], by simp [h.ll], ?_, ?_, ?_, hl, h.bears, ?_⟩
  · rw [hkeep _ (by omega) (fun e => by have := hm _ e; omega) (by omega)]; exact h.res
  · have h2 : w'.heap[w.heap.size + 1]? = some (.cells #[vm, vv] 25 (0, 0)) := (ht.block _ (by omega) (fun e => by have := hm _ e; omega)).trans h.box
    simp only [World.setCell, Array.getElem?_modify, h2]
    simp
  · exact Own.step h.om fun i hi h1 h2 => hkeep i h2 (fun e => h.apart i hi e) (by omega)
  · rw [vcells_append vs ls hll]
    exact Own.step ho fun i _ h1 _ => Below.heap_setCell _ _ _ _ (show i ≠ w.heap.size + 1 by omega)
  · intro b hb1 hb2
    rcases hpl b hb2 with e | e
    · exact h.apart b hb1 e
    · have := (hv b hb1).2; omega
  · have hgen : ∀ (u : Value) (l : List Int), Ints (fun b => w.heap.size + 2 ≤ b ∧ vm.ownBlock ≠ some b ∧ vv.ownBlock ≠ some b) wr u l →
        Ints (fun b => w.heap.size + 2 ≤ b ∧ vm.ownBlock ≠ some b ∧ vv'.ownBlock ≠ some b) (w'.setCell ⟨w.heap.size + 1, 1, none⟩ vv') u l := by
      intro u l hu
      refine ((hu.wide (A' := fun b => w.heap.size + 2 ≤ b ∧ vm.ownBlock ≠ some b ∧ vv.ownBlock ≠ some b ∧ vv'.ownBlock ≠ some b) fun c hc hl => ⟨hc.1, hc.2.1, hc.2.2, fun e => ?_⟩).step
        (by simp [World.setCell]; omega) fun c hc hl => hkeep c hl hc.2.2.1 (by omega)).wide fun c hc _ => ⟨hc.1, hc.2.1, hc.2.2.2⟩
      rcases hpl c e with e | e
      · exact hc.2.2 e
      · omega
    intro i a b
    by_cases e : i < ls.length
    · rw [List.getElem_append_left e, List.getElem_append_left (by omega)]
      exact hgen _ _ (h.li i e (by omega))
    · have e2 : i = ls.length := by simp at a; omega
      subst e2
      rw [List.getElem_append_right (by omega), List.getElem_append_right (by omega)]
      simp only [Nat.sub_self, List.getElem_cons_zero, hll]
      exact hgen _ _ hli
  · exact (h.hand.step hs fun i hi => ht.block i (by omega) (fun e => by have := hm _ e; omega)).setCell (by show hb < w.heap.size + 1; omega) _
  · refine only_setCell ?_ (by show w.heap.size ≤ w.heap.size + 1; omega) _
    exact ⟨ht.os.trans h.only.os, ht.tape.trans h.only.tape, ht.output.trans h.only.output, Nat.le_trans h.only.size hs, fun i hi hne => (ht.block i (by omega) (fun e => by have := hm _ e; omega)).trans (h.only.block i hi hne)⟩
  · intro y hy
    rcases List.mem_append.1 hy with hy | hy
    · exact h.vil y hy
    · rw [List.mem_singleton] at hy; subst hy; exact hx
end

theorem two_set {w : World} {b : Nat} {x y : Value} {t : TypeId} (h : w.heap[b]? = some (.cells #[x, y] t (0, 0))) (u v : Value) :
    ((w.setCell ⟨b, 0, none⟩ u).setCell ⟨b, 1, none⟩ v).heap[b]? = some (.cells #[u, v] t (0, 0)) := by
  simp only [World.setCell, Array.getElem?_modify, h]
  simp
theorem vil_one (a b : Int) (ao : Option Addr) (n c : Nat) : ∀ u ∈ [Value.int .i64 a, .int .i64 b, .slice ao n c], u.oneCell' = true := by
  intro u hu
  simp only [List.mem_cons, List.not_mem_nil, or_false] at hu
  rcases hu with rfl | rfl | rfl <;> rfl
theorem own_one {B : Nat} {w : World} {e : TypeId} {sz n : Nat} {v : Value} {xs : List Value} (h : Own B w e sz v n xs) : v.oneCell' = true := by
  rcases h.2 with ⟨rfl, _⟩ | ⟨g, cap, cur, rfl, _⟩ <;> rfl
theorem own_slice {B : Nat} {w : World} {e : TypeId} {sz n : Nat} {v : Value} {xs : List Value} (h : Own B w e sz v n xs) : ∃ ao cap, v = .slice ao n cap := by
  rcases h.2 with ⟨rfl, rfl⟩ | ⟨g, cap, cur, rfl, _⟩
  · exact ⟨none, 0, rfl⟩
  · exact ⟨_, cap, rfl⟩

set_option maxRecDepth 100000 in
set_option maxHeartbeats 2000000 in
theorem commonsOf_c {w : World} {hb k : Nat} (h : Hnd w hb k) (hk : k < 800000) (most : Nat) (hm1 : 1 ≤ most) (hm4 : most ≤ 4) :
    Calls Tryz.prog 7 #[.pointer (some ⟨hb, 0, none⟩), .int .i64 most] w fun e w' => ∃ vm vv, e = .returned (.agg #[vm, vv]) ∧
      (∃ c, Cm (fun b => w.heap.size ≤ b) w' vm vv c ∧ c.Ok most) ∧ (∃ k', k' ≤ k + 100 ∧ Hnd w' hb k') ∧ w.grownBy w' (some hb) := by
  have hlt := h.lt
  go_enter Tryz.func7, Tryz.ntmps7
  go_wp2_with fail
  refine (among_c (h.call (((Below.refl _ w).alloc (Nat.le_refl _) _).alloc (by simp) _)) (by omega) 1 most (by omega) (by omega) (by omega) (by omega)).mono ?_
  rintro e w1 ⟨⟨n0, rfl, hn1, hn2⟩, ⟨k1, hk1, hH1⟩, hG1⟩
  obtain ⟨n, rfl⟩ : ∃ n : Nat, n0 = (n : Int) := ⟨n0.toNat, by omega⟩
  have hn4 : n ≤ 4 := by omega
  have hw0 : Below w.heap.size w ((w.alloc (.cells #[.slice none 0 0, .slice none 0 0] 25)).alloc (.cells #[.slice none 0 0, .slice none 0 0] 25)) := ((Below.refl _ w).alloc (Nat.le_refl _) _).alloc (by simp) _
  have hM : Making w hb n w1 0 0 k1 (.slice none 0 0) (.slice none 0 0) [] [] [] := by
    refine ⟨?_, ?_, Own.nil, Own.nil, by simp [Value.ownBlock], rfl, rfl, by simp, hH1, only_trans (only_below hw0) hG1, hlt, by simp, by simp⟩
    · rw [hG1.block w.heap.size (by simp; omega) (by simp; omega), Below.heap_alloc _ _ _ (by simp)]; exact heap_alloc_new w _
    · rw [hG1.block (w.heap.size + 1) (by simp) (by simp; omega)]
      have := heap_alloc_new (w.alloc (.cells #[.slice none 0 0, .slice none 0 0] 25)) (.cells #[.slice none 0 0, .slice none 0 0] 25)
      rwa [World.size_alloc] at this
  have HM := Lib.hid hM; clear hM hw0
  go_wp2
  go_loopw [7] (fun i wr => ∃ j : Nat, i = .int .i64 j ∧ j ≤ n ∧ ∃ k2 vm vv ms vs ls, k2 ≤ k1 + 20 * j ∧ Making w hb n wr j j k2 vm vv ms vs ls) (fun i _ => n - (intOf i).toNat)
  case atStart => exact ⟨0, rfl, by omega, k1, _, _, _, _, _, by omega, HM.out⟩
  case round =>
    obtain ⟨j, rfl, hj, k2, vm, vv, ms, vs, ls, hk2, hMk⟩ := hrel
    by_cases hjn : j < n
    · obtain ⟨c0, c1, f0, f1⟩ := cells2_at hMk.box
      have hgs := hMk.only.size
      have hbl := hMk.size
      go_wp2_with fail
      refine wp_region_mix (.one 0 (.one 1 (.one 2 (.act 3 (.act 4 (.act 5 (.one 6 (.act 7 .fin)))))))) 7 (fun w' => w'.cell? ⟨w.heap.size + 1, 0, none⟩ = some vm) (fun _ => True) (by kernel_rfl) (by kernel_rfl) rfl (by kernel_rfl) c0 (fun wd hqd _ => ?_)
      have hMd := hMk.call (hqd.below _)
      refine mix_pure rfl (fun K hK => ?_)
      go_simp
      refine ⟨_, fun _ _ => rfl, hK _ ?_⟩
      clear hK K
      refine mix_load rfl rfl rfl vm (fun w' h => by have h : (fun w' => w'.cell? ⟨w.heap.size + 1, 0, none⟩ = some vm) w' := h; go_simp) rfl ?_
      refine mix_pure rfl (fun K hK => ?_)
      go_simp
      refine ⟨_, fun _ _ => rfl, hK _ ?_⟩
      clear hK K
      refine mix_eff rfl false rfl (fun K hK => ?_)
      go_simp
      refine (among_c hMd.hand (by omega) 4 40 (by omega) (by omega) (by omega) (by omega)).mono ?_
      rintro e w3 ⟨⟨x, rfl, hx1, hx2⟩, ⟨k3, hk3, hH3⟩, hG3⟩
      have hMd3 := hMd.dealt hG3 hH3
      refine hK _ _ ((cells2_at hMd3.box).1) ?_
      clear hK K
      refine mix_eff rfl false rfl (fun K hK => ?_)
      go_simp
      have hMd4 := hMd3.call ((Below.refl _ w3).alloc (Nat.le_refl _) (.cells #[.int .i64 x] 3))
      refine hK _ _ ((cells2_at hMd4.box).1) ?_
      clear hK K
      refine mix_eff rfl false rfl (fun K hK => ?_)
      refine step_append_arr rfl _ _ 22 rfl 3 (.int .i64 0) 1 8 Tryz.underlying22 Tryz.info3 rfl (by decide) (by decide) hMd4.size hMd4.om rfl (arr_one w3 3 (.int .i64 x)) rfl rfl (one_int _) (by omega) ?_
      intro v' w5 hown hT
      obtain ⟨ao5, cp5, rfl⟩ := own_slice hown
      have hbx : w5.heap[w.heap.size + 1]? = some (.cells #[vm, vv] 25 (0, 0)) := (hT.block _ (by have := hMd4.size; omega) (fun e => by have := (World.ownsRow.lt hMd4.om _ e).1; omega)).trans hMd4.box
      have hcb := cells2_at hbx
      refine hK _ _ (hcb.1) ?_
      clear hK K
      refine mix_pure rfl (fun K hK => ?_)
      go_simp
      refine ⟨_, fun _ _ => rfl, hK _ ?_⟩
      clear hK K
      refine mix_eff rfl true rfl (fun K hK => ?_)
      obtain ⟨hcb0, hcb1, hfb0, hfb1⟩ := hcb
      go_simp
      refine hK _ _ trivial ?_
      clear hK K
      refine mix_done ?_
      have hM6 := hMd4.mountain (x := x) (by omega) hown hT
      clear hcb0 hcb1 hfb0 hfb1 hbx hown hT
      generalize w5.setCell ⟨w.heap.size + 1, 0, none⟩ (.slice ao5 (j + 1) cp5) = w6 at hM6 ⊢
      have hcd6 := cells2_at hM6.box
      have hs6 := hM6.size
      go_wp2_with fail
      refine wp_region_mix (.one 0 (.one 1 (.one 2 (.one 3 (.one 5 (.one 9 (.one 10 (.one 12 (.one 16 (.one 17 (.act 4 (.act 6 (.act 7 (.act 8 (.act 11 (.act 13 (.act 14 (.act 15 (.act 18 (.one 19 (.act 20 (.act 21 (.one 22 (.act 23 .fin)))))))))))))))))))))))) 23 (fun w' => w'.cell? ⟨w.heap.size + 1, 1, none⟩ = some vv) (fun _ => True) (by kernel_rfl) (by kernel_rfl) rfl (by kernel_rfl) hcd6.2.1 (fun we hqe _ => ?_)
      have hM7 := hM6.call (hqe.below _)
      refine mix_pure rfl (fun K hK => ?_)
      go_simp
      refine ⟨_, fun _ _ => rfl, hK _ ?_⟩
      clear hK K
      refine mix_load rfl rfl rfl vv (fun w' h => by have h : (fun w' => w'.cell? ⟨w.heap.size + 1, 1, none⟩ = some vv) w' := h; go_simp) rfl ?_
      refine mix_pure rfl (fun K hK => ?_)
      go_simp
      refine ⟨_, fun _ _ => rfl, hK _ ?_⟩
      clear hK K
      refine mix_pure rfl (fun K hK => ?_)
      go_simp
      refine ⟨_, fun _ _ => rfl, hK _ ?_⟩
      clear hK K
      refine mix_pure rfl (fun K hK => ?_)
      go_simp
      refine ⟨_, fun _ _ => rfl, hK _ ?_⟩
      clear hK K
      refine mix_pure rfl (fun K hK => ?_)
      go_simp
      refine ⟨_, fun _ _ => rfl, hK _ ?_⟩
      clear hK K
      refine mix_pure rfl (fun K hK => ?_)
      go_simp
      refine ⟨_, fun _ _ => rfl, hK _ ?_⟩
      clear hK K
      refine mix_pure rfl (fun K hK => ?_)
      go_simp
      refine ⟨_, fun _ _ => rfl, hK _ ?_⟩
      clear hK K
      refine mix_pure rfl (fun K hK => ?_)
      go_simp
      refine ⟨_, fun _ _ => rfl, hK _ ?_⟩
      clear hK K
      refine mix_pure rfl (fun K hK => ?_)
      go_simp
      refine ⟨_, fun _ _ => rfl, hK _ ?_⟩
      clear hK K
      refine mix_eff rfl false rfl (fun K hK => ?_)
      go_simp
      refine (among_c hM7.hand (by omega) 1 6 (by omega) (by omega) (by omega) (by omega)).mono ?_
      rintro e w8 ⟨⟨y1, rfl, hy11, hy12⟩, ⟨k8, hk8, hH8⟩, hG8⟩
      have hM8 := hM7.dealt hG8 hH8
      refine hK _ _ ((cells2_at hM8.box).2.1) ?_
      clear hK K
      refine mix_eff rfl false rfl (fun K hK => ?_)
      go_simp
      refine (among_c hM8.hand (by omega) 1 50 (by omega) (by omega) (by omega) (by omega)).mono ?_
      rintro e w9 ⟨⟨y2, rfl, hy21, hy22⟩, ⟨k9, hk9, hH9⟩, hG9⟩
      have hM9 := hM8.dealt hG9 hH9
      refine hK _ _ ((cells2_at hM9.box).2.1) ?_
      clear hK K
      refine mix_eff rfl false rfl (fun K hK => ?_)
      go_simp
      have hM10 := hM9.call ((Below.refl _ w9).alloc (Nat.le_refl _) (.cells #[.int .i64 y2] 3))
      have ha10 := arr_one w9 3 (.int .i64 y2)
      have hlt9 := hM9.hand.lt
      refine hK _ _ ((cells2_at hM10.box).2.1) ?_
      clear hK K
      refine mix_eff rfl false rfl (fun K hK => ?_)
      go_simp
      refine (of_c (l := [y2]) hM10.hand (by omega) y1 ha10 (by show ¬ (w9.heap.size ≤ hb); omega) (by simp)).mono ?_
      rintro e w11 ⟨⟨y3, rfl, hy3⟩, ⟨k11, hk11, hH11⟩, hG11⟩
      have hM11 := hM10.dealt hG11 hH11
      have hy3' : 1 ≤ y3 ∧ y3 ≤ 50 := by rcases hy3 with e | e; omega; rw [List.mem_singleton] at e; omega
      refine hK _ _ ((cells2_at hM11.box).2.1) ?_
      clear hK K
      refine mix_eff rfl false rfl (fun K hK => ?_)
      go_simp
      refine (upto_c hM11.hand (by omega) 8 (by omega) (by omega)).mono ?_
      rintro e w12 ⟨⟨y4, rfl, hy41, hy42⟩, ⟨k12, hk12, hH12⟩, hG12⟩
      have hM12 := hM11.dealt hG12 hH12
      refine hK _ _ ((cells2_at hM12.box).2.1) ?_
      clear hK K
      refine mix_eff rfl false rfl (fun K hK => ?_)
      go_simp
      refine (upto_c hM12.hand (by omega) 60 (by omega) (by omega)).mono ?_
      rintro e w13 ⟨⟨y5, rfl, hy51, hy52⟩, ⟨k13, hk13, hH13⟩, hG13⟩
      have hM13 := hM12.dealt hG13 hH13
      refine hK _ _ ((cells2_at hM13.box).2.1) ?_
      clear hK K
      refine mix_eff rfl false rfl (fun K hK => ?_)
      go_simp
      have hM14 := hM13.call ((Below.refl _ w13).alloc (Nat.le_refl _) (.cells #[.int .i64 y5] 3))
      have ha14 := arr_one w13 3 (.int .i64 y5)
      have hlt13 := hM13.hand.lt
      refine hK _ _ ((cells2_at hM14.box).2.1) ?_
      clear hK K
      refine mix_eff rfl false rfl (fun K hK => ?_)
      go_simp
      refine (of_c (l := [y5]) hM14.hand (by omega) y4 ha14 (by show ¬ (w13.heap.size ≤ hb); omega) (by simp)).mono ?_
      rintro e w15 ⟨⟨y6, rfl, hy6⟩, ⟨k15, hk15, hH15⟩, hG15⟩
      have hM15 := hM14.dealt hG15 hH15
      have hy6' : 0 ≤ y6 ∧ y6 ≤ 60 := by rcases hy6 with e | e; omega; rw [List.mem_singleton] at e; omega
      refine hK _ _ ((cells2_at hM15.box).2.1) ?_
      clear hK K
      refine mix_eff rfl false rfl (fun K hK => ?_)
      go_simp
      refine (row_c hM15.hand n (by omega) (by omega)).mono ?_
      rintro e w16 ⟨⟨vl, rfl, lk, hlk, hpk⟩, ⟨k16, hk16, hH16⟩, hG16⟩
      have hM16 := hM15.dealt hG16 hH16
      have hs15 := hM15.size
      obtain ⟨av, cv, rfl, hcv1, hcv2⟩ := hlk.shape
      refine hK _ _ ((cells2_at hM16.box).2.1) ?_
      clear hK K
      refine mix_pure rfl (fun K hK => ?_)
      go_simp
      refine ⟨_, fun _ _ => rfl, hK _ ?_⟩
      clear hK K
      refine mix_eff rfl false rfl (fun K hK => ?_)
      go_simp
      have hM17 := hM16.call ((Below.refl _ w16).alloc (Nat.le_refl _) (.cells #[.int .i64 y3, .int .i64 y6, .slice av lk.length cv] 43))
      refine hK _ _ ((cells2_at hM17.box).2.1) ?_
      clear hK K
      refine mix_eff rfl false rfl (fun K hK => ?_)
      refine step_append_arr rfl _ _ 23 rfl 43 _ 3 40 Tryz.underlying23 Tryz.info43 rfl (by decide) (by decide) hM17.size hM17.ov rfl (Own.arr (own_lit w16 43 3 #[.int .i64 y3, .int .i64 y6, .slice av lk.length cv] 1 rfl (by omega))) rfl rfl (vil_one _ _ _ _ _) (by omega) ?_
      intro v' w18 hown hT
      obtain ⟨ao18, cp18, rfl⟩ := own_slice hown
      have hbx : w18.heap[w.heap.size + 1]? = some (.cells #[.slice ao5 (j + 1) cp5, vv] 25 (0, 0)) := (hT.block _ (by have := hM17.size; omega) (fun e => by have := (World.ownsRow.lt hM17.ov _ e).1; omega)).trans hM17.box
      have hcb := cells2_at hbx
      refine hK _ _ (hcb.2.1) ?_
      clear hK K
      refine mix_pure rfl (fun K hK => ?_)
      go_simp
      refine ⟨_, fun _ _ => rfl, hK _ ?_⟩
      clear hK K
      refine mix_eff rfl true rfl (fun K hK => ?_)
      obtain ⟨hcb0, hcb1, hfb0, hfb1⟩ := hcb
      go_simp
      refine hK _ _ trivial ?_
      clear hK K
      refine mix_done ?_
      have hli : Ints (fun b => w.heap.size + 2 ≤ b ∧ (Value.slice ao5 (j + 1) cp5).ownBlock ≠ some b ∧ vv.ownBlock ≠ some b) (w16.alloc (.cells #[.int .i64 y3, .int .i64 y6, .slice av lk.length cv] 43)) (.slice av lk.length cv) lk :=
        (hlk.call ((Below.refl _ w16).alloc (Nat.le_refl _) _)).wide fun b hb1 _ => ⟨by omega, fun e => by have := (World.ownsRow.lt hM15.om b e).2; omega, fun e => by have := (World.ownsRow.lt hM15.ov b e).2; omega⟩
      have hM18 := hM17.village (x := ⟨y3, y6, lk⟩) (vl := .slice av lk.length cv) ⟨hy3'.1, hy3'.2, hy6'.1, hy6'.2, hpk⟩ hli hown hT
      clear hcb0 hcb1 hfb0 hfb1 hbx hown hT hli hM17 hM16 hM15 hM14 hM13 hM12 hM11 hM10 hM9 hM8 hM7 hM6 hcd6 c0 c1 f0 f1
      generalize w18.setCell ⟨w.heap.size + 1, 1, none⟩ (.slice ao18 (j + 1) cp18) = w19 at hM18 ⊢
      go_wp2
      go_roundw
      case rel => exact ⟨j + 1, by go_num, by omega, k16, _, _, _, _, _, by omega, hM18⟩
      case measure => simp [intOf]; omega
    · obtain rfl : j = n := by omega
      obtain ⟨c0, c1, f0, f1⟩ := cells2_at hMk.box
      obtain ⟨d0, d1, e0, e1⟩ := cells2_at hMk.res
      have hbl := hMk.size
      obtain ⟨ao5, cp5, rfl⟩ := own_slice hMk.om
      obtain ⟨ao6, cp6, rfl⟩ := own_slice hMk.ov
      go_wp2
      have hres := two_set hMk.res (.slice ao5 j cp5) (.slice ao6 j cp6)
      have hoth : ∀ i, i ≠ w.heap.size → ((wr.setCell ⟨w.heap.size, 0, none⟩ (.slice ao5 j cp5)).setCell ⟨w.heap.size, 1, none⟩ (.slice ao6 j cp6)).heap[i]? = wr.heap[i]? := fun i hi =>
        (Below.heap_setCell _ _ _ _ (show i ≠ w.heap.size from hi)).trans (Below.heap_setCell _ _ _ _ (show i ≠ w.heap.size from hi))
      have hszz : ((wr.setCell ⟨w.heap.size, 0, none⟩ (.slice ao5 j cp5)).setCell ⟨w.heap.size, 1, none⟩ (.slice ao6 j cp6)).heap.size = wr.heap.size := by simp [World.setCell]
      have honly : w.grownBy ((wr.setCell ⟨w.heap.size, 0, none⟩ (.slice ao5 j cp5)).setCell ⟨w.heap.size, 1, none⟩ (.slice ao6 j cp6)) (some hb) := only_setCell (only_setCell hMk.only (Nat.le_refl _) _) (Nat.le_refl _) _
      generalize (wr.setCell ⟨w.heap.size, 0, none⟩ (.slice ao5 j cp5)).setCell ⟨w.heap.size, 1, none⟩ (.slice ao6 j cp6) = wf at hres hoth hszz honly ⊢
      obtain ⟨d0, d1, _, _⟩ := cells2_at hres
      have hll : ls.length = vs.length := hMk.ll.trans hMk.vl.symm
      have hvl := hMk.vl
      have hml := own_len hMk.om
      have hcm : Cm (fun b => w.heap.size + 2 ≤ b) wr (.slice ao5 j cp5) (.slice ao6 j cp6) ⟨ms, vs⟩ :=
        ⟨Own.ints hMk.om, Own.vils (by rw [hvl]; exact hMk.ov) hll fun i a b => (hMk.li i a b).wide fun c hc _ => hc.1⟩
      refine bodyPost_ret (v := .agg #[.slice ao5 j cp5, .slice ao6 j cp6]) (by simp [results, Tryz.results7, go_sem, d0, d1]) rfl ⟨_, _, rfl, ⟨⟨ms, vs⟩, (hcm.step (by omega) fun i hi _ => hoth i (by omega)).wide fun i hi _ => by omega, ⟨by show 1 ≤ ms.length; omega, by show ms.length ≤ most; omega, by show vs.length = ms.length; omega, hMk.bears, ?_⟩⟩, ⟨k2, by omega, hMk.hand.step (by omega) fun i hi => hoth i (by omega)⟩, honly⟩
      show ∀ v ∈ vs, 1 ≤ v.hearths ∧ v.hearths ≤ 50 ∧ 0 ≤ v.herd ∧ v.herd ≤ 60 ∧ PermOf ms.length v.likes
      rw [hml]
      exact hMk.vil

end Go.Proofs.YtmlikgjfpmjdcaaGreatDoor

