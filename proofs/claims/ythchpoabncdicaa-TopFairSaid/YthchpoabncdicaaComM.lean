/- The contract of CommonsOf once more, with what the commons own; conditions: as said. -/
import Derived.Test.YthchpoabncdicaaMerM
namespace Go.Proofs.Ythchpoabncdicaa
open Go.RowKit

/-- A mountain that bears another number of heads. -/
theorem MKB.setM {N g n cap : Nat} {w : World} {vv : Value} {ms : List Int} {vs : List Vil} {ls : List Value} (h : MKB N w (.slice (some ⟨g, 0, none⟩) n cap) vv ms vs ls) (hn : ms.length = n) (i : Nat) (x : Int) :
    MKB N (w.setCell ⟨g, i, none⟩ (.int .i64 x)) (.slice (some ⟨g, 0, none⟩) n cap) vv (ms.set i x) vs ls := by
  subst hn
  have hoth : ∀ k, k ≠ g → (w.setCell ⟨g, i, none⟩ (.int .i64 x)).heap[k]? = w.heap[k]? := fun k hk => Below.heap_setCell _ _ _ _ (show k ≠ g from hk)
  have h1 := (World.ownsRow.stored h.om i (.int .i64 x)).1
  have e : (I64 ms).set i (.int .i64 x) = I64 (ms.set i x) := by simp [I64, List.map_set]
  rw [e] at h1
  refine ⟨by rw [List.length_set]; exact h1, Own.step h.ov fun k hk _ _ => hoth k (fun e => ?_), h.apart, h.ll, fun j a b => (h.li j a b).step (by simp [World.setCell]) fun k hk _ => hoth k (fun e => ?_)⟩
  · subst e; exact h.apart k rfl hk
  · subst e; exact hk.2.1 rfl
theorem vcells_herd : ∀ (vs : List Vil) (ls : List Value), ls.length = vs.length → ∀ (i : Nat) (hi : i < vs.length) (y : Int), (vcells vs ls).set (i * 3 + 1) (.int .i64 y) = vcells (vs.set i ⟨vs[i].hearths, y, vs[i].likes⟩) ls
  | [], _, _, i, hi, _ => by simp at hi
  | v :: vs, [], h, _, _, _ => by simp at h
  | v :: vs, l :: ls, h, 0, _, y => by simp [vcells]
  | v :: vs, l :: ls, h, i + 1, hi, y => by
    have ih := vcells_herd vs ls (by simpa using h) i (by simpa using hi) y
    simp only [vcells, List.set_cons_succ, List.getElem_cons_succ]
    rw [show (i + 1) * 3 = (i * 3 + 1) + 1 + 1 by omega]
    simp only [List.set_cons_succ, ih]
/-- A village with another herd. -/
theorem MKB.setH {N g n cap : Nat} {w : World} {vm : Value} {ms : List Int} {vs : List Vil} {ls : List Value} (h : MKB N w vm (.slice (some ⟨g, 0, none⟩) n cap) ms vs ls) (hn : vs.length = n) (i : Nat) (hi : i < vs.length) (y : Int) :
    MKB N (w.setCell ⟨g, i * 3 + 1, none⟩ (.int .i64 y)) vm (.slice (some ⟨g, 0, none⟩) n cap) ms (vs.set i ⟨vs[i].hearths, y, vs[i].likes⟩) ls := by
  subst hn
  have hoth : ∀ k, k ≠ g → (w.setCell ⟨g, i * 3 + 1, none⟩ (.int .i64 y)).heap[k]? = w.heap[k]? := fun k hk => Below.heap_setCell _ _ _ _ (show k ≠ g from hk)
  have h1 := (World.ownsRow.stored h.ov (i * 3 + 1) (.int .i64 y)).1
  rw [vcells_herd vs ls h.ll i hi y] at h1
  refine ⟨Own.step h.om fun k hk _ _ => hoth k (fun e => ?_), by rw [List.length_set]; exact h1, h.apart, by rw [List.length_set]; exact h.ll, fun j a b => ?_⟩
  · subst e; exact h.apart k hk rfl
  · have hl := (h.li j a (by simpa using b)).step (w' := w.setCell ⟨g, i * 3 + 1, none⟩ (.int .i64 y)) (by simp [World.setCell]) fun k hk _ => hoth k (fun e => by subst e; exact hk.2.2 rfl)
    have e : (vs.set i ⟨vs[i].hearths, y, vs[i].likes⟩)[j].likes = (vs[j]'(by simpa using b)).likes := by
      rw [List.getElem_set]
      split
      · subst_vars; rfl
      · rfl
    rw [e]
    exact hl

set_option maxRecDepth 100000 in
set_option maxHeartbeats 2000000 in
theorem commonsM_c {w : World} {hb k : Nat} (h : Hnd w hb k) (hk : k < 800000) (most : Nat) (hm1 : 1 ≤ most) (hm4 : most ≤ 4) :
    Calls Try.prog 23 #[.pointer (some ⟨hb, 0, none⟩), .int .i64 most] w fun e w' => ∃ vm vv, e = .returned (.agg #[vm, vv]) ∧
      (∃ ms vs ls, MKB (w.heap.size + 2) w' vm vv ms vs ls ∧ (Com.mk ms vs).Ok most) ∧ (∃ k', k' ≤ k + 100 ∧ Hnd w' hb k') ∧ w.grownBy w' (some hb) := by
  have hlt := h.lt
  go_enter Try.func23, Try.ntmps23
  go_wp2_with fail
  refine (among_c (h.call (((Below.refl _ w).alloc (Nat.le_refl _) _).alloc (by simp) _)) (by omega) 1 most (by omega) (by omega) (by omega) (by omega)).mono ?_
  rintro e w1 ⟨⟨n0, rfl, hn1, hn2⟩, ⟨k1, hk1, hH1⟩, hG1⟩
  obtain ⟨n, rfl⟩ : ∃ n : Nat, n0 = (n : Int) := ⟨n0.toNat, by omega⟩
  have hn4 : n ≤ 4 := by omega
  have hw0 : Below w.heap.size w ((w.alloc (.cells #[.slice none 0 0, .slice none 0 0] 25)).alloc (.cells #[.slice none 0 0, .slice none 0 0] 25)) := ((Below.refl _ w).alloc (Nat.le_refl _) _).alloc (by simp) _
  have hM : Making w hb n w1 0 0 k1 (.slice none 0 0) (.slice none 0 0) [] [] [] := by
    refine ⟨?_, ?_, Own.nil, Own.nil, by simp [Value.ownBlock], rfl, rfl, by simp, hH1, only_trans (only_below hw0) hG1, hlt, by simp, by simp⟩
    · rw [hG1.block w.heap.size (by simp; omega) (by simp; omega), Below.heap_alloc _ _ _ (by simp)]; exact heap_alloc_new w _
    · rw [hG1.block (w.heap.size + 1) (by simp) (by simp; omega)]
      have := heap_alloc_new (w.alloc (.cells #[.slice none 0 0, .slice none 0 0] 25)) (.cells #[.slice none 0 0, .slice none 0 0] 25)
      rwa [World.size_alloc] at this
  have HM := Lib.hid hM; clear hM hw0
  go_wp2
  go_loopw [7] (fun i wr => ∃ j : Nat, i = .int .i64 j ∧ j ≤ n ∧ ∃ k2 vm vv ms vs ls, k2 ≤ k1 + 20 * j ∧ Making w hb n wr j j k2 vm vv ms vs ls) (fun i _ => n - (intOf i).toNat)
  case atStart => exact ⟨0, rfl, by omega, k1, _, _, _, _, _, by omega, HM.out⟩
  case round =>
    obtain ⟨j, rfl, hj, k2, vm, vv, ms, vs, ls, hk2, hMk⟩ := hrel
    by_cases hjn : j < n
    · obtain ⟨c0, c1, f0, f1⟩ := cells2_at hMk.box
      have hgs := hMk.only.size
      have hbl := hMk.size
      go_wp2_with fail
      refine wp_region_mix (.one 0 (.one 1 (.one 2 (.act 3 (.act 4 (.act 5 (.one 6 (.act 7 .fin)))))))) 7 (fun w' => w'.cell? ⟨w.heap.size + 1, 0, none⟩ = some vm) (fun _ => True) (by kernel_rfl) (by kernel_rfl) rfl (by kernel_rfl) c0 (fun wd hqd _ => ?_)
      have hMd := hMk.call (hqd.below _)
      refine mix_pure rfl (fun K hK => ?_)
      go_simp
      refine ⟨_, fun _ _ => rfl, hK _ ?_⟩
      clear hK K
      refine mix_load rfl rfl rfl vm (fun w' h => by have h : (fun w' => w'.cell? ⟨w.heap.size + 1, 0, none⟩ = some vm) w' := h; go_simp) rfl ?_
      refine mix_pure rfl (fun K hK => ?_)
      go_simp
      refine ⟨_, fun _ _ => rfl, hK _ ?_⟩
      clear hK K
      refine mix_eff rfl false rfl (fun K hK => ?_)
      go_simp
      refine (among_c hMd.hand (by omega) 4 40 (by omega) (by omega) (by omega) (by omega)).mono ?_
      rintro e w3 ⟨⟨x, rfl, hx1, hx2⟩, ⟨k3, hk3, hH3⟩, hG3⟩
      have hMd3 := hMd.dealt hG3 hH3
      refine hK _ _ ((cells2_at hMd3.box).1) ?_
      clear hK K
      refine mix_eff rfl false rfl (fun K hK => ?_)
      go_simp
      have hMd4 := hMd3.call ((Below.refl _ w3).alloc (Nat.le_refl _) (.cells #[.int .i64 x] 3))
      refine hK _ _ ((cells2_at hMd4.box).1) ?_
      clear hK K
      refine mix_eff rfl false rfl (fun K hK => ?_)
      refine step_append_arr rfl _ _ 22 rfl 3 (.int .i64 0) 1 8 Try.underlying22 Try.info3 rfl (by decide) (by decide) hMd4.size hMd4.om rfl (arr_one w3 3 (.int .i64 x)) rfl rfl (one_int _) (by omega) ?_
      intro v' w5 hown hT
      obtain ⟨ao5, cp5, rfl⟩ := own_slice hown
      have hbx : w5.heap[w.heap.size + 1]? = some (.cells #[vm, vv] 25 (0, 0)) := (hT.block _ (by have := hMd4.size; omega) (fun e => by have := (World.ownsRow.lt hMd4.om _ e).1; omega)).trans hMd4.box
      have hcb := cells2_at hbx
      refine hK _ _ (hcb.1) ?_
      clear hK K
      refine mix_pure rfl (fun K hK => ?_)
      go_simp
      refine ⟨_, fun _ _ => rfl, hK _ ?_⟩
      clear hK K
      refine mix_eff rfl true rfl (fun K hK => ?_)
      obtain ⟨hcb0, hcb1, hfb0, hfb1⟩ := hcb
      go_simp
      refine hK _ _ trivial ?_
      clear hK K
      refine mix_done ?_
      have hM6 := hMd4.mountain (x := x) (by omega) hown hT
      clear hcb0 hcb1 hfb0 hfb1 hbx hown hT
      generalize w5.setCell ⟨w.heap.size + 1, 0, none⟩ (.slice ao5 (j + 1) cp5) = w6 at hM6 ⊢
      have hcd6 := cells2_at hM6.box
      have hs6 := hM6.size
      go_wp2_with fail
      refine wp_region_mix (.one 0 (.one 1 (.one 2 (.one 3 (.one 5 (.one 9 (.one 10 (.one 12 (.one 16 (.one 17 (.act 4 (.act 6 (.act 7 (.act 8 (.act 11 (.act 13 (.act 14 (.act 15 (.act 18 (.one 19 (.act 20 (.act 21 (.one 22 (.act 23 .fin)))))))))))))))))))))))) 23 (fun w' => w'.cell? ⟨w.heap.size + 1, 1, none⟩ = some vv) (fun _ => True) (by kernel_rfl) (by kernel_rfl) rfl (by kernel_rfl) hcd6.2.1 (fun we hqe _ => ?_)
      have hM7 := hM6.call (hqe.below _)
      refine mix_pure rfl (fun K hK => ?_)
      go_simp
      refine ⟨_, fun _ _ => rfl, hK _ ?_⟩
      clear hK K
      refine mix_load rfl rfl rfl vv (fun w' h => by have h : (fun w' => w'.cell? ⟨w.heap.size + 1, 1, none⟩ = some vv) w' := h; go_simp) rfl ?_
      refine mix_pure rfl (fun K hK => ?_)
      go_simp
      refine ⟨_, fun _ _ => rfl, hK _ ?_⟩
      clear hK K
      refine mix_pure rfl (fun K hK => ?_)
      go_simp
      refine ⟨_, fun _ _ => rfl, hK _ ?_⟩
      clear hK K
      refine mix_pure rfl (fun K hK => ?_)
      go_simp
      refine ⟨_, fun _ _ => rfl, hK _ ?_⟩
      clear hK K
      refine mix_pure rfl (fun K hK => ?_)
      go_simp
      refine ⟨_, fun _ _ => rfl, hK _ ?_⟩
      clear hK K
      refine mix_pure rfl (fun K hK => ?_)
      go_simp
      refine ⟨_, fun _ _ => rfl, hK _ ?_⟩
      clear hK K
      refine mix_pure rfl (fun K hK => ?_)
      go_simp
      refine ⟨_, fun _ _ => rfl, hK _ ?_⟩
      clear hK K
      refine mix_pure rfl (fun K hK => ?_)
      go_simp
      refine ⟨_, fun _ _ => rfl, hK _ ?_⟩
      clear hK K
      refine mix_pure rfl (fun K hK => ?_)
      go_simp
      refine ⟨_, fun _ _ => rfl, hK _ ?_⟩
      clear hK K
      refine mix_eff rfl false rfl (fun K hK => ?_)
      go_simp
      refine (among_c hM7.hand (by omega) 1 6 (by omega) (by omega) (by omega) (by omega)).mono ?_
      rintro e w8 ⟨⟨y1, rfl, hy11, hy12⟩, ⟨k8, hk8, hH8⟩, hG8⟩
      have hM8 := hM7.dealt hG8 hH8
      refine hK _ _ ((cells2_at hM8.box).2.1) ?_
      clear hK K
      refine mix_eff rfl false rfl (fun K hK => ?_)
      go_simp
      refine (among_c hM8.hand (by omega) 1 50 (by omega) (by omega) (by omega) (by omega)).mono ?_
      rintro e w9 ⟨⟨y2, rfl, hy21, hy22⟩, ⟨k9, hk9, hH9⟩, hG9⟩
      have hM9 := hM8.dealt hG9 hH9
      refine hK _ _ ((cells2_at hM9.box).2.1) ?_
      clear hK K
      refine mix_eff rfl false rfl (fun K hK => ?_)
      go_simp
      have hM10 := hM9.call ((Below.refl _ w9).alloc (Nat.le_refl _) (.cells #[.int .i64 y2] 3))
      have ha10 := arr_one w9 3 (.int .i64 y2)
      have hlt9 := hM9.hand.lt
      refine hK _ _ ((cells2_at hM10.box).2.1) ?_
      clear hK K
      refine mix_eff rfl false rfl (fun K hK => ?_)
      go_simp
      refine (of_c (l := [y2]) hM10.hand (by omega) y1 ha10 (by show ¬ (w9.heap.size ≤ hb); omega) (by simp)).mono ?_
      rintro e w11 ⟨⟨y3, rfl, hy3⟩, ⟨k11, hk11, hH11⟩, hG11⟩
      have hM11 := hM10.dealt hG11 hH11
      have hy3' : 1 ≤ y3 ∧ y3 ≤ 50 := by rcases hy3 with e | e; omega; rw [List.mem_singleton] at e; omega
      refine hK _ _ ((cells2_at hM11.box).2.1) ?_
      clear hK K
      refine mix_eff rfl false rfl (fun K hK => ?_)
      go_simp
      refine (upto_c hM11.hand (by omega) 8 (by omega) (by omega)).mono ?_
      rintro e w12 ⟨⟨y4, rfl, hy41, hy42⟩, ⟨k12, hk12, hH12⟩, hG12⟩
      have hM12 := hM11.dealt hG12 hH12
      refine hK _ _ ((cells2_at hM12.box).2.1) ?_
      clear hK K
      refine mix_eff rfl false rfl (fun K hK => ?_)
      go_simp
      refine (upto_c hM12.hand (by omega) 60 (by omega) (by omega)).mono ?_
      rintro e w13 ⟨⟨y5, rfl, hy51, hy52⟩, ⟨k13, hk13, hH13⟩, hG13⟩
      have hM13 := hM12.dealt hG13 hH13
      refine hK _ _ ((cells2_at hM13.box).2.1) ?_
      clear hK K
      refine mix_eff rfl false rfl (fun K hK => ?_)
      go_simp
      have hM14 := hM13.call ((Below.refl _ w13).alloc (Nat.le_refl _) (.cells #[.int .i64 y5] 3))
      have ha14 := arr_one w13 3 (.int .i64 y5)
      have hlt13 := hM13.hand.lt
      refine hK _ _ ((cells2_at hM14.box).2.1) ?_
      clear hK K
      refine mix_eff rfl false rfl (fun K hK => ?_)
      go_simp
      refine (of_c (l := [y5]) hM14.hand (by omega) y4 ha14 (by show ¬ (w13.heap.size ≤ hb); omega) (by simp)).mono ?_
      rintro e w15 ⟨⟨y6, rfl, hy6⟩, ⟨k15, hk15, hH15⟩, hG15⟩
      have hM15 := hM14.dealt hG15 hH15
      have hy6' : 0 ≤ y6 ∧ y6 ≤ 60 := by rcases hy6 with e | e; omega; rw [List.mem_singleton] at e; omega
      refine hK _ _ ((cells2_at hM15.box).2.1) ?_
      clear hK K
      refine mix_eff rfl false rfl (fun K hK => ?_)
      go_simp
      refine (row_c hM15.hand n (by omega) (by omega)).mono ?_
      rintro e w16 ⟨⟨vl, rfl, lk, hlk, hpk⟩, ⟨k16, hk16, hH16⟩, hG16⟩
      have hM16 := hM15.dealt hG16 hH16
      have hs15 := hM15.size
      obtain ⟨av, cv, rfl, hcv1, hcv2⟩ := hlk.shape
      refine hK _ _ ((cells2_at hM16.box).2.1) ?_
      clear hK K
      refine mix_pure rfl (fun K hK => ?_)
      go_simp
      refine ⟨_, fun _ _ => rfl, hK _ ?_⟩
      clear hK K
      refine mix_eff rfl false rfl (fun K hK => ?_)
      go_simp
      have hM17 := hM16.call ((Below.refl _ w16).alloc (Nat.le_refl _) (.cells #[.int .i64 y3, .int .i64 y6, .slice av lk.length cv] 51))
      refine hK _ _ ((cells2_at hM17.box).2.1) ?_
      clear hK K
      refine mix_eff rfl false rfl (fun K hK => ?_)
      refine step_append_arr rfl _ _ 23 rfl 51 _ 3 40 Try.underlying23 Try.info51 rfl (by decide) (by decide) hM17.size hM17.ov rfl (Own.arr (own_lit w16 51 3 #[.int .i64 y3, .int .i64 y6, .slice av lk.length cv] 1 rfl (by omega))) rfl rfl (vil_one _ _ _ _ _) (by omega) ?_
      intro v' w18 hown hT
      obtain ⟨ao18, cp18, rfl⟩ := own_slice hown
      have hbx : w18.heap[w.heap.size + 1]? = some (.cells #[.slice ao5 (j + 1) cp5, vv] 25 (0, 0)) := (hT.block _ (by have := hM17.size; omega) (fun e => by have := (World.ownsRow.lt hM17.ov _ e).1; omega)).trans hM17.box
      have hcb := cells2_at hbx
      refine hK _ _ (hcb.2.1) ?_
      clear hK K
      refine mix_pure rfl (fun K hK => ?_)
      go_simp
      refine ⟨_, fun _ _ => rfl, hK _ ?_⟩
      clear hK K
      refine mix_eff rfl true rfl (fun K hK => ?_)
      obtain ⟨hcb0, hcb1, hfb0, hfb1⟩ := hcb
      go_simp
      refine hK _ _ trivial ?_
      clear hK K
      refine mix_done ?_
      have hli : Ints (fun b => w.heap.size + 2 ≤ b ∧ (Value.slice ao5 (j + 1) cp5).ownBlock ≠ some b ∧ vv.ownBlock ≠ some b) (w16.alloc (.cells #[.int .i64 y3, .int .i64 y6, .slice av lk.length cv] 51)) (.slice av lk.length cv) lk :=
        (hlk.call ((Below.refl _ w16).alloc (Nat.le_refl _) _)).wide fun b hb1 _ => ⟨by omega, fun e => by have := (World.ownsRow.lt hM15.om b e).2; omega, fun e => by have := (World.ownsRow.lt hM15.ov b e).2; omega⟩
      have hM18 := hM17.village (x := ⟨y3, y6, lk⟩) (vl := .slice av lk.length cv) ⟨hy3'.1, hy3'.2, hy6'.1, hy6'.2, hpk⟩ hli hown hT
      clear hcb0 hcb1 hfb0 hfb1 hbx hown hT hli hM17 hM16 hM15 hM14 hM13 hM12 hM11 hM10 hM9 hM8 hM7 hM6 hcd6 c0 c1 f0 f1
      generalize w18.setCell ⟨w.heap.size + 1, 1, none⟩ (.slice ao18 (j + 1) cp18) = w19 at hM18 ⊢
      go_wp2
      go_roundw
      case rel => exact ⟨j + 1, by go_num, by omega, k16, _, _, _, _, _, by omega, hM18⟩
      case measure => simp [intOf]; omega
    · obtain rfl : j = n := by omega
      obtain ⟨c0, c1, f0, f1⟩ := cells2_at hMk.box
      obtain ⟨d0, d1, e0, e1⟩ := cells2_at hMk.res
      have hbl := hMk.size
      obtain ⟨ao5, cp5, rfl⟩ := own_slice hMk.om
      obtain ⟨ao6, cp6, rfl⟩ := own_slice hMk.ov
      go_wp2
      have hres := two_set hMk.res (.slice ao5 j cp5) (.slice ao6 j cp6)
      have hoth : ∀ i, i ≠ w.heap.size → ((wr.setCell ⟨w.heap.size, 0, none⟩ (.slice ao5 j cp5)).setCell ⟨w.heap.size, 1, none⟩ (.slice ao6 j cp6)).heap[i]? = wr.heap[i]? := fun i hi =>
        (Below.heap_setCell _ _ _ _ (show i ≠ w.heap.size from hi)).trans (Below.heap_setCell _ _ _ _ (show i ≠ w.heap.size from hi))
      have hszz : ((wr.setCell ⟨w.heap.size, 0, none⟩ (.slice ao5 j cp5)).setCell ⟨w.heap.size, 1, none⟩ (.slice ao6 j cp6)).heap.size = wr.heap.size := by simp [World.setCell]
      have honly : w.grownBy ((wr.setCell ⟨w.heap.size, 0, none⟩ (.slice ao5 j cp5)).setCell ⟨w.heap.size, 1, none⟩ (.slice ao6 j cp6)) (some hb) := only_setCell (only_setCell hMk.only (Nat.le_refl _) _) (Nat.le_refl _) _
      generalize (wr.setCell ⟨w.heap.size, 0, none⟩ (.slice ao5 j cp5)).setCell ⟨w.heap.size, 1, none⟩ (.slice ao6 j cp6) = wf at hres hoth hszz honly ⊢
      obtain ⟨d0, d1, _, _⟩ := cells2_at hres
      have hll : ls.length = vs.length := hMk.ll.trans hMk.vl.symm
      have hvl := hMk.vl
      have hml := own_len hMk.om
      have hmk : MKB (w.heap.size + 2) wr (.slice ao5 j cp5) (.slice ao6 j cp6) ms vs ls := ⟨by rw [hml]; exact hMk.om, by rw [hvl]; exact hMk.ov, hMk.apart, hll, hMk.li⟩
      refine bodyPost_ret (v := .agg #[.slice ao5 j cp5, .slice ao6 j cp6]) (by simp [results, Try.results23, go_sem, d0, d1]) rfl ⟨_, _, rfl, ⟨ms, vs, ls, hmk.below (by omega) fun i hi _ => hoth i (by omega), ⟨by show 1 ≤ ms.length; omega, by show ms.length ≤ most; omega, by show vs.length = ms.length; omega, hMk.bears, ?_⟩⟩, ⟨k2, by omega, hMk.hand.step (by omega) fun i hi => hoth i (by omega)⟩, honly⟩
      show ∀ v ∈ vs, 1 ≤ v.hearths ∧ v.hearths ≤ 50 ∧ 0 ≤ v.herd ∧ v.herd ≤ 60 ∧ PermOf ms.length v.likes
      rw [hml]
      exact hMk.vil

end Go.Proofs.Ythchpoabncdicaa
