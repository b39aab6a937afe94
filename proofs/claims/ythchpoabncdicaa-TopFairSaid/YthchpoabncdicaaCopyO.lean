/- CopyCommons, with what the copy owns: its villages may be written; conditions: the commons are small. -/
import Derived.Test.YthchpoabncdicaaLNext
namespace Go.Proofs.Ythchpoabncdicaa
open Go.RowKit

theorem vcells_set0 : ∀ (vs : List Vil) (ls : List Value) (_ : ls.length = vs.length) (k : Nat) (hk : k < vs.length) (x : Int),
    (vcells vs ls).set (k * 3) (.int .i64 x) = vcells (vs.set k { vs[k] with hearths := x }) ls
  | [], _, _, k, hk, _ => by simp at hk
  | _ :: _, [], h, _, _, _ => by simp at h
  | y :: vs, u :: ls, h, 0, _, x => by simp [vcells]
  | y :: vs, u :: ls, h, k + 1, hk, x => by
    rw [show (k + 1) * 3 = k * 3 + 3 by omega]
    simp only [vcells, List.set_cons_succ, List.getElem_cons_succ]
    rw [vcells_set0 vs ls (by simpa using h) k (by simpa using hk) x]
theorem vcells_set1 : ∀ (vs : List Vil) (ls : List Value) (_ : ls.length = vs.length) (k : Nat) (hk : k < vs.length) (x : Int),
    (vcells vs ls).set (k * 3 + 1) (.int .i64 x) = vcells (vs.set k { vs[k] with herd := x }) ls
  | [], _, _, k, hk, _ => by simp at hk
  | _ :: _, [], h, _, _, _ => by simp at h
  | y :: vs, u :: ls, h, 0, _, x => by simp [vcells]
  | y :: vs, u :: ls, h, k + 1, hk, x => by
    rw [show (k + 1) * 3 + 1 = (k * 3 + 1) + 3 by omega]
    simp only [vcells, List.set_cons_succ, List.getElem_cons_succ]
    rw [vcells_set1 vs ls (by simpa using h) k (by simpa using hk) x]
theorem vcells_likes : ∀ (vs : List Vil) (ls : List Value) (k : Nat) (hk : k < vs.length) (l : List Int), vcells vs ls = vcells (vs.set k { vs[k] with likes := l }) ls
  | [], _, k, hk, _ => by simp at hk
  | _ :: _, [], _, _, _ => by
    rename_i k _ _
    cases k <;> simp [vcells]
  | y :: vs, u :: ls, 0, _, x => by simp [vcells]
  | y :: vs, u :: ls, k + 1, hk, x => by
    simp only [vcells, List.set_cons_succ, List.getElem_cons_succ]
    rw [← vcells_likes vs ls k (by simpa using hk) x]

/-- Commons whose villages are the call's own. -/
structure Copied (B : Nat) (w : World) (vm vv : Value) (c : Com) (ls : List Value) : Prop where
  im : Ints (fun b => B ≤ b ∧ vv.ownBlock ≠ some b) w vm c.mountains
  ov : Own B w 51 3 vv c.villages.length (vcells c.villages ls)
  ll : ls.length = c.villages.length
  lk : ∀ i (a : i < ls.length) (b : i < c.villages.length), Ints (fun b => B ≤ b ∧ vv.ownBlock ≠ some b) w ls[i] c.villages[i].likes

theorem Copied.cm {B : Nat} {w : World} {vm vv : Value} {c : Com} {ls : List Value} (h : Copied B w vm vv c ls) : Cm (fun b => B ≤ b) w vm vv c :=
  ⟨h.im.wide fun _ hb _ => hb.1, Own.vils h.ov h.ll fun i a b => (h.lk i a b).wide fun _ hb _ => hb.1⟩
theorem Copied.call {B : Nat} {w w' : World} {vm vv : Value} {c : Com} {ls : List Value} (h : Copied B w vm vv c ls) (hB : Below w.heap.size w w') : Copied B w' vm vv c ls :=
  ⟨h.im.call hB, Own.call h.ov hB, h.ll, fun i a b => (h.lk i a b).call hB⟩
theorem Copied.alloc {B : Nat} {w : World} {vm vv : Value} {c : Com} {ls : List Value} (h : Copied B w vm vv c ls) (o : Obj) : Copied B (w.alloc o) vm vv c ls := h.call ((Below.refl _ w).alloc (Nat.le_refl _) o)
theorem Copied.head {B : Nat} {w : World} {vm vv : Value} {c : Com} {ls : List Value} (h : Copied B w vm vv c ls) (hn : 0 < c.villages.length) : ∃ g cap, vv = .slice (some ⟨g, 0, none⟩) c.villages.length cap ∧ B ≤ g ∧ g < w.heap.size := own_head h.ov hn
theorem Copied.cells {B g cap : Nat} {w : World} {vm : Value} {c : Com} {ls : List Value} (h : Copied B w vm (.slice (some ⟨g, 0, none⟩) c.villages.length cap) c ls) (k : Nat) (hk : k < c.villages.length) :
    w.cell? ⟨g, k * 3, none⟩ = some (.int .i64 c.villages[k].hearths) ∧ w.cell? ⟨g, k * 3 + 1, none⟩ = some (.int .i64 c.villages[k].herd) ∧ w.cell? ⟨g, k * 3 + 2, none⟩ = some (ls[k]'(by rw [h.ll]; exact hk)) := by
  obtain ⟨h1, h2, h3⟩ := vcells_at c.villages ls h.ll k hk
  exact ⟨by rw [World.ownsRow.cellAt h.ov (k * 3) (by omega), h1], by rw [World.ownsRow.cellAt h.ov (k * 3 + 1) (by omega), h2], by rw [World.ownsRow.cellAt h.ov (k * 3 + 2) (by omega), h3]⟩
theorem Copied.set {B g cap j : Nat} {w : World} {vm : Value} {c : Com} {vs' : List Vil} {ls : List Value} {u : Value} (h : Copied B w vm (.slice (some ⟨g, 0, none⟩) c.villages.length cap) c ls)
    (hv : (vcells c.villages ls).set j u = vcells vs' ls) (hl : vs'.length = c.villages.length) (hk : ∀ i (a : i < vs'.length) (b : i < c.villages.length), vs'[i].likes = c.villages[i].likes) :
    Copied B (w.setCell ⟨g, j, none⟩ u) vm (.slice (some ⟨g, 0, none⟩) c.villages.length cap) ⟨c.mountains, vs'⟩ ls := by
  have hoth : ∀ i, i ≠ g → (w.setCell ⟨g, j, none⟩ u).heap[i]? = w.heap[i]? := fun i hi => Below.heap_setCell _ _ _ _ (show i ≠ g from hi)
  have hszz : (w.setCell ⟨g, j, none⟩ u).heap.size = w.heap.size := by simp [World.setCell]
  have hgen : ∀ (v : Value) (l : List Int), Ints (fun b => B ≤ b ∧ (Value.slice (some ⟨g, 0, none⟩) c.villages.length cap).ownBlock ≠ some b) w v l → Ints (fun b => B ≤ b ∧ (Value.slice (some ⟨g, 0, none⟩) c.villages.length cap).ownBlock ≠ some b) (w.setCell ⟨g, j, none⟩ u) v l :=
    fun v l hi => hi.step (by omega) fun b hb _ => hoth b (fun e => hb.2 (by rw [e]; rfl))
  refine ⟨hgen _ _ h.im, ?_, by rw [h.ll, hl], fun i a b => ?_⟩
  · have := (World.ownsRow.stored h.ov j u).1
    rw [hv] at this
    show Own B _ 51 3 _ vs'.length _
    rw [hl]; exact this
  · have b' : i < vs'.length := b
    have := hgen _ _ (h.lk i a (by omega))
    rw [← hk i b' (by omega)] at this
    exact this
theorem Copied.set0 {B g cap : Nat} {w : World} {vm : Value} {c : Com} {ls : List Value} (h : Copied B w vm (.slice (some ⟨g, 0, none⟩) c.villages.length cap) c ls) (k : Nat) (hk : k < c.villages.length) (x : Int) :
    Copied B (w.setCell ⟨g, k * 3, none⟩ (.int .i64 x)) vm (.slice (some ⟨g, 0, none⟩) c.villages.length cap) ⟨c.mountains, c.villages.set k { c.villages[k] with hearths := x }⟩ ls :=
  h.set (vcells_set0 c.villages ls h.ll k hk x) (by simp) (fun i a b => by rw [List.getElem_set]; split <;> simp_all)
theorem Copied.set1 {B g cap : Nat} {w : World} {vm : Value} {c : Com} {ls : List Value} (h : Copied B w vm (.slice (some ⟨g, 0, none⟩) c.villages.length cap) c ls) (k : Nat) (hk : k < c.villages.length) (x : Int) :
    Copied B (w.setCell ⟨g, k * 3 + 1, none⟩ (.int .i64 x)) vm (.slice (some ⟨g, 0, none⟩) c.villages.length cap) ⟨c.mountains, c.villages.set k { c.villages[k] with herd := x }⟩ ls :=
  h.set (vcells_set1 c.villages ls h.ll k hk x) (by simp) (fun i a b => by rw [List.getElem_set]; split <;> simp_all)
theorem Copied.free {B g cap : Nat} {w : World} {vm : Value} {c : Com} {ls : List Value} (h : Copied B w vm (.slice (some ⟨g, 0, none⟩) c.villages.length cap) c ls) (j : Nat) : w.frozen? ⟨g, j, none⟩ = false := World.ownsRow.frozenAt h.ov j

set_option maxRecDepth 100000 in
set_option maxHeartbeats 2000000 in
theorem copyCommons_own {A : Nat → Prop} {w : World} {vm vv : Value} {c : Com} (h : Cm A w vm vv c) (hs : c.Sm) :
    Calls Try.prog 27 #[.agg #[vm, vv]] w fun e w' => ∃ vm' vv' ls, e = .returned (.agg #[vm', vv']) ∧ Copied w.heap.size w' vm' vv' c ls ∧ Below w.heap.size w w' := by
  obtain ⟨am, cpm, rfl, _, _⟩ := h.1.shape
  obtain ⟨av, cpv, rfl, _, _⟩ := h.2.shape
  have hm1 := hs.m
  have hv1 := hs.v
  have hB0 : Below w.heap.size w ((w.alloc (.cells #[.slice am c.mountains.length cpm, .slice av c.villages.length cpv] 25)).alloc (.cells #[.slice none 0 0, .slice none 0 0] 25)) := ((Below.refl _ w).alloc (Nat.le_refl _) _).alloc (by simp) _
  have hbox : ((w.alloc (.cells #[.slice am c.mountains.length cpm, .slice av c.villages.length cpv] 25)).alloc (.cells #[.slice none 0 0, .slice none 0 0] 25)).heap[w.heap.size]? = some (.cells #[.slice am c.mountains.length cpm, .slice av c.villages.length cpv] 25 (0, 0)) := by
    rw [Below.heap_alloc _ _ _ (by simp)]; exact heap_alloc_new w _
  have hres : ((w.alloc (.cells #[.slice am c.mountains.length cpm, .slice av c.villages.length cpv] 25)).alloc (.cells #[.slice none 0 0, .slice none 0 0] 25)).heap[w.heap.size + 1]? = some (.cells #[.slice none 0 0, .slice none 0 0] 25 (0, 0)) := by
    have := heap_alloc_new (w.alloc (.cells #[.slice am c.mountains.length cpm, .slice av c.villages.length cpv] 25)) (.cells #[.slice none 0 0, .slice none 0 0] 25)
    rwa [World.size_alloc] at this
  have hsz : ((w.alloc (.cells #[.slice am c.mountains.length cpm, .slice av c.villages.length cpv] 25)).alloc (.cells #[.slice none 0 0, .slice none 0 0] 25)).heap.size = w.heap.size + 2 := by simp
  have hm0 := (h.1.wide (A' := fun b => A b ∧ b < w.heap.size) fun b hb hl => ⟨hb, hl⟩).call hB0
  have hvv0 := (h.2.wide (A' := fun b => A b ∧ b < w.heap.size) fun b hb hl => ⟨hb, hl⟩).call hB0
  go_enter Try.func27, Try.ntmps27
  go_upto_region 1 with fail
  generalize (w.alloc (.cells #[.slice am c.mountains.length cpm, .slice av c.villages.length cpv] 25)).alloc (.cells #[.slice none 0 0, .slice none 0 0] 25) = w0 at hB0 hbox hres hsz hm0 hvv0 ⊢
  have hsz0 : w.heap.size + 2 ≤ w0.heap.size := by omega
  clear hsz
  obtain ⟨ls0, hl0, hv0, hi0⟩ := hvv0
  go_cut [] (fun wx => ∃ vm' vv' ls, Copying w A c wx 0 vm' vv' ls)
  case first =>
    refine wp_region_mix (.one 0 (.one 1 (.one 4 (.one 5 (.two 2 (.one 7 (.act 3 (.act 6 (.act 8 (.act 9 (.act 10 .fin)))))) 3 (.act 2 (.one 7 (.act 6 (.act 8 (.act 9 (.act 10 .fin))))))))))) 8 (Box2 w.heap.size (.slice am c.mountains.length cpm) (.slice av c.villages.length cpv) 25) (fun _ => True) (by kernel_rfl) (by kernel_rfl) rfl (by kernel_rfl) hbox (fun w1 hq1 _ => ?_)
    have hBd := hq1.below (w.heap.size + 2)
    have hm1' := hm0.qt hq1
    have hs1 : w0.heap.size ≤ w1.heap.size := by have := hq1.size; omega
    have hbox1 : (Box2 w.heap.size (.slice am c.mountains.length cpm) (.slice av c.villages.length cpv) 25) w1 := (hBd.block _ (by omega)).trans hbox
    refine mix_pure rfl (fun K hK => ?_)
    go_simp
    refine ⟨_, fun _ _ => rfl, hK _ ?_⟩
    clear hK K
    refine mix_load rfl rfl rfl (.slice am c.mountains.length cpm) (fun w' h => by have h : (Box2 w.heap.size (.slice am c.mountains.length cpm) (.slice av c.villages.length cpv) 25) w' := h; have h := h.c0; go_simp) rfl ?_
    refine mix_pure rfl (fun K hK => ?_)
    go_simp
    refine ⟨_, fun _ _ => rfl, hK _ ?_⟩
    clear hK K
    refine mix_load rfl rfl rfl (.slice av c.villages.length cpv) (fun w' h => by have h : (Box2 w.heap.size (.slice am c.mountains.length cpm) (.slice av c.villages.length cpv) 25) w' := h; have h := h.c1; go_simp) rfl ?_
    refine mix_two rfl rfl false false rfl rfl (fun K hK => ?_) (fun K hK => ?_)
    · go_simp
      refine (copyInts_c (hm1') (by omega)).mono ?_
      rintro e w4 ⟨v4, rfl, hv4, hB4⟩
      obtain ⟨ap, cpp, rfl, _, _⟩ := hv4.shape
      have hx4 : Box2 w.heap.size (.slice am c.mountains.length cpm) (.slice av c.villages.length cpv) 25 w4 := (hB4.block _ (by omega)).trans hbox1
      refine hK _ _ (hx4) ?_
      clear hK K
      refine mix_pure rfl (fun K hK => ?_)
      go_simp
      refine ⟨_, fun _ _ => rfl, hK _ ?_⟩
      clear hK K
      refine mix_eff rfl false rfl (fun K hK => ?_)
      go_simp
      have hx5 : Box2 w.heap.size (.slice am c.mountains.length cpm) (.slice av c.villages.length cpv) 25 (w4.alloc (.cells #[] 51)) := (Below.heap_alloc _ _ _ (by have := hB4.size; (try simp at this); omega)).trans hx4
      have hB5 : Below (w.heap.size + 2) w0 (w4.alloc (.cells #[] 51)) := ((hBd.trans (hB4.mono (by (try simp); omega))).alloc (by have := hB4.size; (try simp at this); omega) _)
      have hoe : Own (w.heap.size + 2) (w4.alloc (.cells #[] 51)) 51 3 (.slice (some ⟨w4.heap.size, 0, none⟩) 0 0) 0 [] := own_from (own_lit w4 51 3 #[] 0 rfl (by omega)) (by have := hB4.size; (try simp at this); omega)
      have hva := Arr.step hv0 hB5.size (fun b hb hl => hB5.block b (by have := hb.2; omega))
      have hi5 : Ints (fun b => w.heap.size + 2 ≤ b ∧ b < (w4.alloc (.cells #[] 51)).heap.size ∧ b ≠ w4.heap.size) (w4.alloc (.cells #[] 51)) (.slice ap c.mountains.length cpp) c.mountains := (hv4.wide (A' := fun b => w.heap.size + 2 ≤ b ∧ b < (w4.alloc (.cells #[] 51)).heap.size ∧ b ≠ w4.heap.size) (fun b hb hl => ⟨by omega, by simp; omega, by omega⟩)).call ((Below.refl _ _).alloc (Nat.le_refl _) _)
      refine hK _ _ (hx5) ?_
      clear hK K
      refine mix_eff rfl false rfl (fun K hK => ?_)
      refine step_append_arr rfl _ _ 23 rfl 51 _ 3 40 Try.underlying23 Try.info51 rfl (by decide) (by decide) (B := w.heap.size + 2) (by have := hB5.size; omega) (n := 0) (xs := []) hoe rfl hva rfl (vcells_len _ _ hl0) (vcells_one _ _ (vils_one hl0 hi0)) (by omega) ?_
      intro v' w6 hown hT
      rw [List.nil_append, Nat.zero_add] at hown
      obtain ⟨ao6, cp6, rfl⟩ := own_slice hown
      have hB6 := hT.below hoe hB5 (by have := hB5.size; omega)
      have hx6 : Box2 w.heap.size (.slice am c.mountains.length cpm) (.slice av c.villages.length cpv) 25 w6 := (hB6.block _ (by omega)).trans hbox
      refine hK _ _ (hx6) ?_
      clear hK K
      refine mix_eff rfl true rfl (fun K hK => ?_)
      obtain ⟨d0, d1, e0, e1⟩ := cells2_at hx6
      go_simp
      refine hK _ _ trivial ?_
      clear hK K
      refine mix_eff rfl true rfl (fun K hK => ?_)
      go_simp
      refine hK _ _ trivial ?_
      clear hK K
      refine mix_eff rfl true rfl (fun K hK => ?_)
      obtain ⟨d0, d1, e0, e1⟩ := cells2_at (one_set0 hx6 (.slice ap c.mountains.length cpp))
      go_simp
      refine hK _ _ trivial ?_
      clear hK K
      refine mix_done ?_
      go_wp2_with fail
      go_meet
      exact ⟨_, _, _, copying_start (hB0.trans (hB5.mono (by omega))) (by have := hB5.size; omega) ((hB5.block _ (by omega)).trans hbox) ((hB5.block _ (by omega)).trans hres) hi5 hoe hl0 (fun i a b => (hi0 i a b).below hB5 (fun b hb _ => by omega)) hown hT⟩
    · go_simp
      have hx3 : Box2 w.heap.size (.slice am c.mountains.length cpm) (.slice av c.villages.length cpv) 25 (w1.alloc (.cells #[] 51)) := (Below.heap_alloc _ _ _ (by omega)).trans hbox1
      refine hK _ _ (hx3) ?_
      clear hK K
      refine mix_eff rfl false rfl (fun K hK => ?_)
      go_simp
      refine (copyInts_c (hm1'.call ((Below.refl _ _).alloc (Nat.le_refl _) _)) (by omega)).mono ?_
      rintro e w4 ⟨v4, rfl, hv4, hB4⟩
      obtain ⟨ap, cpp, rfl, _, _⟩ := hv4.shape
      have hx4 : Box2 w.heap.size (.slice am c.mountains.length cpm) (.slice av c.villages.length cpv) 25 w4 := (hB4.block _ (by simp; omega)).trans hx3
      have hB5 : Below (w.heap.size + 2) w0 w4 := (hBd.alloc (by omega) _).trans (hB4.mono (by (try simp); omega))
      have hoe : Own (w.heap.size + 2) w4 51 3 (.slice (some ⟨w1.heap.size, 0, none⟩) 0 0) 0 [] := Own.call (own_from (own_lit w1 51 3 #[] 0 rfl (by omega)) (by omega)) hB4
      have hva := Arr.step hv0 hB5.size (fun b hb hl => hB5.block b (by have := hb.2; omega))
      have hi5 : Ints (fun b => w.heap.size + 2 ≤ b ∧ b < w4.heap.size ∧ b ≠ w1.heap.size) w4 (.slice ap c.mountains.length cpp) c.mountains := hv4.wide (fun b hb hl => ⟨by simp at hb; omega, hl, by simp at hb; omega⟩)
      refine hK _ _ (hx4) ?_
      clear hK K
      refine mix_pure rfl (fun K hK => ?_)
      go_simp
      refine ⟨_, fun _ _ => rfl, hK _ ?_⟩
      clear hK K
      refine mix_eff rfl false rfl (fun K hK => ?_)
      refine step_append_arr rfl _ _ 23 rfl 51 _ 3 40 Try.underlying23 Try.info51 rfl (by decide) (by decide) (B := w.heap.size + 2) (by have := hB5.size; omega) (n := 0) (xs := []) hoe rfl hva rfl (vcells_len _ _ hl0) (vcells_one _ _ (vils_one hl0 hi0)) (by omega) ?_
      intro v' w6 hown hT
      rw [List.nil_append, Nat.zero_add] at hown
      obtain ⟨ao6, cp6, rfl⟩ := own_slice hown
      have hB6 := hT.below hoe hB5 (by have := hB5.size; omega)
      have hx6 : Box2 w.heap.size (.slice am c.mountains.length cpm) (.slice av c.villages.length cpv) 25 w6 := (hB6.block _ (by omega)).trans hbox
      refine hK _ _ (hx6) ?_
      clear hK K
      refine mix_eff rfl true rfl (fun K hK => ?_)
      obtain ⟨d0, d1, e0, e1⟩ := cells2_at hx6
      go_simp
      refine hK _ _ trivial ?_
      clear hK K
      refine mix_eff rfl true rfl (fun K hK => ?_)
      go_simp
      refine hK _ _ trivial ?_
      clear hK K
      refine mix_eff rfl true rfl (fun K hK => ?_)
      obtain ⟨d0, d1, e0, e1⟩ := cells2_at (one_set0 hx6 (.slice ap c.mountains.length cpp))
      go_simp
      refine hK _ _ trivial ?_
      clear hK K
      refine mix_done ?_
      go_wp2_with fail
      go_meet
      exact ⟨_, _, _, copying_start (hB0.trans (hB5.mono (by omega))) (by have := hB5.size; omega) ((hB5.block _ (by omega)).trans hbox) ((hB5.block _ (by omega)).trans hres) hi5 hoe hl0 (fun i a b => (hi0 i a b).below hB5 (fun b hb _ => by omega)) hown hT⟩
  case rest =>
    obtain ⟨vm', vv', ls, hC⟩ := hcut
    go_wp2
    go_loopw [3] (fun i wr => ∃ j : Nat, i = .int .i64 j ∧ j ≤ c.villages.length ∧ ∃ ls, Copying w A c wr j vm' vv' ls) (fun i _ => c.villages.length - (intOf i).toNat)
    case atStart => exact ⟨0, rfl, by omega, ls, hC⟩
    case round =>
      obtain ⟨j, rfl, hj, ls2, hC2⟩ := hrel
      have hsz2 := hC2.size
      obtain ⟨d0, d1, _, _⟩ := cells2_at hC2.box
      obtain ⟨av2, cp2, rfl⟩ := own_slice hC2.ov
      by_cases hjn : j < c.villages.length
      · obtain ⟨g, cp3, he, hg, hgl⟩ := own_head hC2.ov (by omega)
        obtain ⟨rfl, rfl⟩ : av2 = some ⟨g, 0, none⟩ ∧ cp2 = cp3 := by injection he with e1 e2 e3; exact ⟨e1, e3⟩
        clear he
        obtain ⟨al, cl, hal, _, _⟩ := (hC2.li j (by have := hC2.ll; omega) hjn).shape
        have hil := hC2.li j (by have := hC2.ll; omega) hjn
        rw [hal] at hil
        have hcl : wr.cell? ⟨g, j * 3 + 2, none⟩ = some (.slice al c.villages[j].likes.length cl) := by
          rw [World.ownsRow.cellAt hC2.ov (j * 3 + 2) (by omega), (vcells_at c.villages ls2 hC2.ll j hjn).2.2, hal]
        have hlj := hs.l _ (List.getElem_mem hjn)
        go_wp2_with fail
        refine wp_region_mix (.one 0 (.one 1 (.one 2 (.one 3 (.one 4 (.one 5 (.one 6 (.one 7 (.one 8 (.act 9 (.act 10 (.one 11 (.act 12 .fin))))))))))))) 12 (Both (Box2 w.heap.size vm' (.slice (some ⟨g, 0, none⟩) c.villages.length cp2) 25) (CellIs g (j * 3 + 2) (.slice al c.villages[j].likes.length cl))) (fun _ => True) (by kernel_rfl) (by kernel_rfl) rfl (by kernel_rfl) ⟨hC2.box, hcl⟩ (fun wd hqd _ => ?_)
        refine mix_pure rfl (fun K hK => ?_)
        go_simp
        refine ⟨_, fun _ _ => rfl, hK _ ?_⟩
        clear hK K
        refine mix_load rfl rfl rfl (.slice (some ⟨g, 0, none⟩) c.villages.length cp2) (fun w' h => by have h : (Both (Box2 w.heap.size vm' (.slice (some ⟨g, 0, none⟩) c.villages.length cp2) 25) (CellIs g (j * 3 + 2) (.slice al c.villages[j].likes.length cl))) w' := h; have h := h.1.c1; go_simp) rfl ?_
        refine mix_pure rfl (fun K hK => ?_)
        go_simp
        refine ⟨_, fun _ _ => rfl, hK _ ?_⟩
        clear hK K
        refine mix_pure rfl (fun K hK => ?_)
        go_simp
        refine ⟨_, fun _ _ => rfl, hK _ ?_⟩
        clear hK K
        refine mix_load rfl rfl rfl (.slice (some ⟨g, 0, none⟩) c.villages.length cp2) (fun w' h => by have h : (Both (Box2 w.heap.size vm' (.slice (some ⟨g, 0, none⟩) c.villages.length cp2) 25) (CellIs g (j * 3 + 2) (.slice al c.villages[j].likes.length cl))) w' := h; have h := h.1.c1; go_simp) rfl ?_
        refine mix_pure rfl (fun K hK => ?_)
        go_simp
        refine ⟨_, fun _ _ => rfl, hK _ ?_⟩
        clear hK K
        refine mix_pure rfl (fun K hK => ?_)
        go_simp
        refine ⟨_, fun _ _ => rfl, hK _ ?_⟩
        clear hK K
        refine mix_pure rfl (fun K hK => ?_)
        go_simp
        refine ⟨_, fun _ _ => rfl, hK _ ?_⟩
        clear hK K
        refine mix_load rfl rfl rfl (.slice al c.villages[j].likes.length cl) (fun w' h => by have h : (Both (Box2 w.heap.size vm' (.slice (some ⟨g, 0, none⟩) c.villages.length cp2) 25) (CellIs g (j * 3 + 2) (.slice al c.villages[j].likes.length cl))) w' := h; have h := h.2.out; go_simp) rfl ?_
        refine mix_eff rfl false rfl (fun K hK => ?_)
        go_simp
        refine (copyInts_c (hil.qt hqd) (by omega)).mono ?_
        rintro e w4 ⟨v4, rfl, hv4, hB4⟩
        obtain ⟨ap, cpp, rfl, _, _⟩ := hv4.shape
        have hBB := (hqd.below wr.heap.size).trans (hB4.mono (by rw [hqd.size]; exact Nat.le_refl _))
        have hC3 := hC2.next rfl hg hjn hBB (by rw [← hqd.size]; exact hv4)
        have hC4 := hC2.step hBB
        have hcl4 : w4.cell? ⟨g, j * 3 + 2, none⟩ = some (.slice al c.villages[j].likes.length cl) := by rw [hBB.cell (p := ⟨g, j * 3 + 2, none⟩) hgl]; exact hcl
        have hf4 := own_free hC4.ov (j * 3 + 2)
        refine hK _ _ (⟨hC4.box, hcl4⟩) ?_
        clear hK K
        refine mix_eff rfl false rfl (fun K hK => ?_)
        go_simp
        refine hK _ _ (⟨hC4.box, hcl4⟩) ?_
        clear hK K
        refine mix_pure rfl (fun K hK => ?_)
        go_simp
        refine ⟨_, fun _ _ => rfl, hK _ ?_⟩
        clear hK K
        refine mix_eff rfl true rfl (fun K hK => ?_)
        go_simp
        refine hK _ _ trivial ?_
        clear hK K
        refine mix_done ?_
        go_wp2
        go_roundw
        case rel => exact ⟨j + 1, by go_num, by omega, _, hC3⟩
        case measure => simp [intOf]; omega
      · obtain rfl : j = c.villages.length := by omega
        obtain ⟨r0, r1, q0, q1⟩ := cells2_at hC2.res
        obtain ⟨am3, cp3, rfl, _, _⟩ := hC2.im.shape
        go_wp2
        have hres3 := two_set hC2.res (.slice am3 c.mountains.length cp3) (.slice av2 c.villages.length cp2)
        have hoth : ∀ i, i ≠ w.heap.size + 1 → ((wr.setCell ⟨w.heap.size + 1, 0, none⟩ (.slice am3 c.mountains.length cp3)).setCell ⟨w.heap.size + 1, 1, none⟩ (.slice av2 c.villages.length cp2)).heap[i]? = wr.heap[i]? := fun i hi =>
          (Below.heap_setCell _ _ _ _ (show i ≠ w.heap.size + 1 from hi)).trans (Below.heap_setCell _ _ _ _ (show i ≠ w.heap.size + 1 from hi))
        have hszz : ((wr.setCell ⟨w.heap.size + 1, 0, none⟩ (.slice am3 c.mountains.length cp3)).setCell ⟨w.heap.size + 1, 1, none⟩ (.slice av2 c.villages.length cp2)).heap.size = wr.heap.size := by simp [World.setCell]
        have hbel : Below w.heap.size w ((wr.setCell ⟨w.heap.size + 1, 0, none⟩ (.slice am3 c.mountains.length cp3)).setCell ⟨w.heap.size + 1, 1, none⟩ (.slice av2 c.villages.length cp2)) := (hC2.below.setCell (by show w.heap.size ≤ w.heap.size + 1; omega) _).setCell (by show w.heap.size ≤ w.heap.size + 1; omega) _
        generalize (wr.setCell ⟨w.heap.size + 1, 0, none⟩ (.slice am3 c.mountains.length cp3)).setCell ⟨w.heap.size + 1, 1, none⟩ (.slice av2 c.villages.length cp2) = wf at hres3 hoth hszz hbel ⊢
        obtain ⟨x0, x1, _, _⟩ := cells2_at hres3
        have hcm : Copied w.heap.size wf (.slice am3 c.mountains.length cp3) (.slice av2 c.villages.length cp2) c ls2 :=
          ⟨(hC2.im.step (by omega) fun i hi _ => hoth i (by omega)).wide fun b hb _ => ⟨by omega, hb.2⟩, own_from (Own.step hC2.ov fun b h1 _ _ => hoth b (by omega)) (by omega), hC2.ll, fun i a b => ((hC2.lk i a b b).step (by omega) fun i hi _ => hoth i (by omega)).wide fun b hb _ => ⟨by omega, hb.2⟩⟩
        exact bodyPost_ret (v := .agg #[.slice am3 c.mountains.length cp3, .slice av2 c.villages.length cp2]) (by simp [results, Try.results27, go_sem, x0, x1]) rfl ⟨_, _, _, rfl, hcm, hbel⟩

end Go.Proofs.Ythchpoabncdicaa
