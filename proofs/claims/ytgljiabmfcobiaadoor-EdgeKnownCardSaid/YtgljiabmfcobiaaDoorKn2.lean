/- The chapter's examples (edge): all have their results; conditions: none. -/
import Derived.Test.YtgljiabmfcobiaaDoorKn1
namespace Go.Proofs.YtgljiabmfcobiaaDoor
open Go.RowKit

theorem own_shp {B : Nat} {w : World} {e : TypeId} {sz n : Nat} {v : Value} {xs : List Value} (h : Own B w e sz v n xs) (hn : 0 < n) : ∃ g cap, v = .slice (some ⟨g, 0, none⟩) n cap ∧ B ≤ g ∧ g < w.heap.size := by
  rcases h.2 with ⟨rfl, h0⟩ | ⟨g, cap, cur, rfl, hb, hg, _⟩
  · omega
  · exact ⟨g, cap, rfl, hb, (Array.getElem?_eq_some_iff.1 hg).1⟩
/-- What stands: the box of the first answer. -/
def KS (w0 : World) (b : Nat) (x y : Int) (w : World) : Prop := Below w0.heap.size w0 w ∧ Blk b #[.int .i64 x, .int .i64 y] 32 w ∧ w0.heap.size ≤ b
theorem KS.call {w0 : World} {b : Nat} {x y : Int} {w w' : World} (h : KS w0 b x y w) (hB : Below w.heap.size w w') : KS w0 b x y w' := ⟨bnx h.1 hB, h.2.1.call hB, h.2.2⟩
theorem KS.qt {w0 : World} {b : Nat} {x y : Int} {w w' : World} (h : KS w0 b x y w) (hq : Qt w w') : KS w0 b x y w' := h.call (hq.below _)
theorem KS.alloc {w0 : World} {b : Nat} {x y : Int} {w : World} (h : KS w0 b x y w) (o : Obj) : KS w0 b x y (w.alloc o) := ⟨bal2 h.1, h.2.1.alloc o, h.2.2⟩
theorem cls_shape {A : Nat → Prop} {w : World} {v : Value} {l : List Cl} (h : ClsM A w v l) (n : Nat) (hn : l.length = n) : ∃ a c, v = .slice a n c := by
  obtain ⟨a, c, e, _⟩ := h.shape
  exact ⟨a, c, by rw [e, hn]⟩
theorem ints_shape {A : Nat → Prop} {w : World} {v : Value} {l : List Int} (h : Ints A w v l) (n : Nat) (hn : l.length = n) : ∃ a c, v = .slice a n c := by
  obtain ⟨a, c, e, _⟩ := h.shape
  exact ⟨a, c, by rw [e, hn]⟩
theorem fus_shape {A : Nat → Prop} {w : World} {v : Value} {l : List Fu} (h : FusM A w v l) (n : Nat) (hn : l.length = n) : ∃ a c, v = .slice a n c := by
  obtain ⟨a, c, e, _⟩ := h.shape
  exact ⟨a, c, by rw [e, hn]⟩
theorem rgs_shape {A : Nat → Prop} {w : World} {v : Value} {l : List (Int × Int)} (h : RgsM A w v l) (n : Nat) (hn : l.length = n) : ∃ a c, v = .slice a n c := by
  obtain ⟨a, c, e, _⟩ := h.shape
  exact ⟨a, c, by rw [e, hn]⟩
theorem kCheck1 {A : Nat → Prop} {w : World} {v : Value} (h : ClsM A w v (bankE []).claims) : Calls Tryd.prog 6 #[.agg #[.int .i64 3, .int .i64 2, v]] w fun e w' => e = .returned (.int .i64 0) ∧ Below w.heap.size w w' := kCheck (x := bankE []) h 0 known_check1
theorem kCheck2 {A : Nat → Prop} {w : World} {v : Value} (h : ClsM A w v (bankE []).claims) : Calls Tryd.prog 6 #[.agg #[.int .i64 5, .int .i64 2, v]] w fun e w' => e = .returned (.int .i64 1) ∧ Below w.heap.size w w' := kCheck (x := ⟨5, 2, (bankE []).claims⟩) h 1 known_check2
theorem kCheck3 {A : Nat → Prop} {w : World} {v : Value} (h : ClsM A w v (bankE [⟨5, 0, 0, 0, 0⟩]).claims) : Calls Tryd.prog 6 #[.agg #[.int .i64 3, .int .i64 2, v]] w fun e w' => e = .returned (.int .i64 4) ∧ Below w.heap.size w w' := kCheck (x := bankE [⟨5, 0, 0, 0, 0⟩]) h 4 known_check3
theorem kCheck4 {A : Nat → Prop} {w : World} {v : Value} (h : ClsM A w v ((bankE []).claims.set 0 ⟨1, 0, 0, 4, 1⟩)) : Calls Tryd.prog 6 #[.agg #[.int .i64 3, .int .i64 2, v]] w fun e w' => e = .returned (.int .i64 1) ∧ Below w.heap.size w w' := kCheck (x := ⟨3, 2, (bankE []).claims.set 0 ⟨1, 0, 0, 4, 1⟩⟩) h 1 known_check4
theorem lit1 (w : World) (a b c d e : Int) : ClsM (fun q => w.heap.size ≤ q) (w.alloc (.cells #[.int .i64 a, .int .i64 b, .int .i64 c, .int .i64 d, .int .i64 e] 27)) (.slice (some ⟨w.heap.size, 0, none⟩) 1 1) [⟨a, b, c, d, e⟩] := Own.arr (own_lit w 27 5 #[.int .i64 a, .int .i64 b, .int .i64 c, .int .i64 d, .int .i64 e] 1 rfl (by omega))

theorem k47 {A A' : Nat → Prop} {w : World} {q : Nat} {u v : Value} (hb : Blk q #[u, u, v] 46 w) (hu : RgsM A w u [(0, 0), (0, 0), (0, 0)]) (hv : RgsM A' w v [(0, 0), (1, 2), (0, 1)]) (k : Nat) (hk : k < 3) : ∃ a c, w.cell? ⟨q, k, none⟩ = some (.slice a 3 c) ∧ RgsM (fun _ => True) w (.slice a 3 c) (kTa[k]'hk) := by
  have hu' := hu.wide (A' := fun _ => True) fun _ _ _ => trivial
  have hv' := hv.wide (A' := fun _ => True) fun _ _ _ => trivial
  have h0 := hb.cell 0
  have h1 := hb.cell 1
  have h2 := hb.cell 2
  obtain ⟨a, c, rfl⟩ := rgs_shape hu' 3 rfl
  obtain ⟨a', c', rfl⟩ := rgs_shape hv' 3 rfl
  match k, hk with
  | 0, _ => exact ⟨a, c, h0, hu'⟩
  | 1, _ => exact ⟨a, c, h1, hu'⟩
  | 2, _ => exact ⟨a', c', h2, hv'⟩

set_option maxRecDepth 100000 in
set_option maxHeartbeats 16000000 in
theorem known_c (w : World) : Calls Tryd.prog 3 #[] w fun e w' => e = .returned (.bool true) ∧ Below w.heap.size w w' := by
  have hnil : ∀ w, ClsM (fun _ => True) w (.slice none 0 0) [] := fun w => ⟨none, 0, rfl, Nat.le_refl _, ⟨by unfold maxLen; omega, fun _ => rfl⟩, .inl rfl⟩
  go_enter Tryd.func3, Tryd.ntmps3
  go_wp2_with fail
  refine (bank_c (hnil _) (by simp)).mono ?_
  rintro e w1 ⟨v1, rfl, h1, hB1⟩
  go_wp2_with fail
  have hS1 := bal2 (o := .cells #[.int .i64 5, .int .i64 0, .int .i64 0, .int .i64 0, .int .i64 0] 27) hB1
  have h1x := h1.call ((Below.refl w1.heap.size w1).alloc (Nat.le_refl _) (.cells #[.int .i64 5, .int .i64 0, .int .i64 0, .int .i64 0, .int .i64 0] 27))
  refine (bank_c (lit1 w1 5 0 0 0 0) (by simp)).mono ?_
  rintro e w2 ⟨v2, rfl, h2, hB2⟩
  have hS2 := bnx hS1 hB2
  have h12 := h1x.call hB2
  clear hB1 hS1 h1 h1x hB2
  go_wp2_with fail
  refine (bank_o (hnil _) (by simp)).mono ?_
  rintro e w3 ⟨v3, rfl, h3, hB3⟩
  have hS3 := bnx hS2 hB3
  have h13 := (h12.wide (A' := fun q => q < w2.heap.size) (fun q _ hl => hl)).call hB3
  have h23 := (h2.wide (A' := fun q => q < w2.heap.size) (fun q _ hl => hl)).call hB3
  have hz23 := hB3.size
  have hz02 := hS2.size
  clear hS2 h12 h2 hB3
  obtain ⟨a1, p1, rfl⟩ := cls_shape h13 3 rfl
  obtain ⟨a2, p2, rfl⟩ := cls_shape h23 4 rfl
  obtain ⟨g3, p3, rfl, hg3, hg3l⟩ := own_shp (n := 3) h3 (by decide)
  have h3 : CO w2.heap.size g3 3 p3 (bankE []).claims w3 := h3
  go_upto_region 2 with fail
  obtain ⟨b1, hb1⟩ : ∃ b, b = w3.heap.size := ⟨_, rfl⟩
  obtain ⟨b2, hb2⟩ : ∃ b, b = w3.heap.size + 1 := ⟨_, rfl⟩
  obtain ⟨b3, hb3⟩ : ∃ b, b = w3.heap.size + 1 + 1 := ⟨_, rfl⟩
  obtain ⟨w4, hw4⟩ : ∃ w4, w4 = ((w3.alloc (.cells #[.int .i64 3, .int .i64 2, .slice a1 3 p1] 24)).alloc (.cells #[.int .i64 3, .int .i64 2, .slice a2 4 p2] 24)).alloc (.cells #[.int .i64 3, .int .i64 2, .slice (some ⟨g3, 0, none⟩) 3 p3] 24) := ⟨_, rfl⟩
  have hX1 : Blk b1 #[.int .i64 3, .int .i64 2, .slice a1 3 p1] 24 w4 := by rw [hw4, hb1]; exact ((Blk.new _ _ _).alloc _).alloc _
  have hX2 : Blk b2 #[.int .i64 3, .int .i64 2, .slice a2 4 p2] 24 w4 := by rw [hw4]; exact (blk_at (by rw [hb2]; simp) _ _).alloc _
  have hX3 : Blk b3 #[.int .i64 3, .int .i64 2, .slice (some ⟨g3, 0, none⟩) 3 p3] 24 w4 := by rw [hw4]; exact blk_at (by rw [hb3]; simp) _ _
  have hB4 : Below w3.heap.size w3 w4 := by rw [hw4]; exact (((Below.refl _ w3).alloc (Nat.le_refl _) _).alloc (by simp) _).alloc (by simp; omega) _
  rw [← hw4, ← hb3, ← hb2, ← hb1]
  have h14 := h13.call hB4
  have h24 := h23.call hB4
  have h34 := h3.call hB4
  have hS4 := bnx hS3 hB4
  have hlt1 : w3.heap.size ≤ b1 ∧ b1 < b2 ∧ b2 < b3 := by omega
  clear hw4 hb1 hb2 hb3 h13 h23 h3 hS3 hB4

  refine wp_region_mix2 (.pur 0 (.one 1 (.pur 2 (.act 3 (.pur 4 (.pur 5 (.act 6 .fin))))))) 6 (Blk b3 #[.int .i64 3, .int .i64 2, .slice (some ⟨g3, 0, none⟩) 3 p3] 24) (Blk b3 #[.int .i64 3, .int .i64 2, .slice (some ⟨g3, 0, none⟩) 3 p3] 24) (by kernel_rfl) (by kernel_rfl) rfl (by kernel_rfl) (hX3.qt ((Qt.refl _).drewN 1)) (fun wd hqd _ => ?_)
  have hne1 : ∀ q, (Value.slice (some ⟨g3, 0, none⟩) 3 p3).ownBlock = some q → q ≠ b1 := by
    intro q hq
    have e : g3 = q := by injection hq
    omega
  have hX1d := hX1.qt hqd
  have hX2d := hX2.qt hqd
  have hX3d := hX3.qt hqd
  have h1d := h14.qt hqd
  have h2d := h24.qt hqd
  have h3d : CO w2.heap.size g3 3 p3 (bankE []).claims wd := h34.call (hqd.below _)
  have hSd := bnx hS4 (hqd.below _)
  have f0 := hX1d.free 0
  have q0 := hX1d.cell 0
  have hX1a := hX1d.set 0 (.int .i64 5)
  have hX2a := hX2d.other (a := ⟨b1, 0, none⟩) (show b2 ≠ b1 by omega) (.int .i64 5)
  have hX3a := hX3d.other (a := ⟨b1, 0, none⟩) (show b3 ≠ b1 by omega) (.int .i64 5)
  have h1a := h1d.step (w' := wd.setCell ⟨b1, 0, none⟩ (.int .i64 5)) (by simp [World.setCell]) fun q hq _ => Below.heap_setCell _ _ _ _ (show q ≠ b1 by have hq : q < w2.heap.size := hq; omega)
  have h2a := h2d.step (w' := wd.setCell ⟨b1, 0, none⟩ (.int .i64 5)) (by simp [World.setCell]) fun q hq _ => Below.heap_setCell _ _ _ _ (show q ≠ b1 by have hq : q < w2.heap.size := hq; omega)
  have h3a : CO w2.heap.size g3 3 p3 (bankE []).claims (wd.setCell ⟨b1, 0, none⟩ (.int .i64 5)) := Own.step h3d fun q hq _ _ => Below.heap_setCell _ _ _ _ (hne1 q hq)
  have hSa := hSd.setCell (p := ⟨b1, 0, none⟩) (show w.heap.size ≤ b1 by omega) (.int .i64 5)
  have f4 := h3a.free 4
  have q4 := (h3a.at (k := 0) (by decide)).2.2.2.2
  have hX1b := hX1a.other (a := ⟨g3, 4, none⟩) (show b1 ≠ g3 by omega) (.int .i64 1)
  have hX2b := hX2a.other (a := ⟨g3, 4, none⟩) (show b2 ≠ g3 by omega) (.int .i64 1)
  have hX3b := hX3a.other (a := ⟨g3, 4, none⟩) (show b3 ≠ g3 by omega) (.int .i64 1)
  have h1b := h1a.step (w' := (wd.setCell ⟨b1, 0, none⟩ (.int .i64 5)).setCell ⟨g3, 4, none⟩ (.int .i64 1)) (by simp [World.setCell]) fun q hq _ => Below.heap_setCell _ _ _ _ (show q ≠ g3 by have hq : q < w2.heap.size := hq; omega)
  have h2b := h2a.step (w' := (wd.setCell ⟨b1, 0, none⟩ (.int .i64 5)).setCell ⟨g3, 4, none⟩ (.int .i64 1)) (by simp [World.setCell]) fun q hq _ => Below.heap_setCell _ _ _ _ (show q ≠ g3 by have hq : q < w2.heap.size := hq; omega)
  have h3b := CO.set h3a (k := 0) (by decide) 4 (by decide) (.int .i64 1) ⟨1, 0, 0, 4, 1⟩ rfl
  have hSb := hSa.setCell (p := ⟨g3, 4, none⟩) (show w.heap.size ≤ g3 by omega) (.int .i64 1)
  refine mix_pur2 rfl (fun K hK => ?_)
  go_simp
  first | refine ⟨_, fun _ => rfl, hK _ ?_⟩ | refine hK _ ?_
  clear hK K
  refine mix_load2 rfl rfl rfl (.slice (some ⟨g3, 0, none⟩) 3 p3) (fun w' h => by have h : (Blk b3 #[.int .i64 3, .int .i64 2, .slice (some ⟨g3, 0, none⟩) 3 p3] 24) w' := h; have h2 := h.cell 2; go_simp) rfl ?_
  refine mix_pur2 rfl (fun K hK => ?_)
  go_simp
  first | refine ⟨_, fun _ => rfl, hK _ ?_⟩ | refine hK _ ?_
  clear hK K
  refine mix_eff2 rfl false rfl (fun K hK => ?_)
  go_simp
  refine hK _ _ hX3a ?_
  clear hK K
  refine mix_pur2 rfl (fun K hK => ?_)
  go_simp
  first | refine ⟨_, fun _ => rfl, hK _ ?_⟩ | refine hK _ ?_
  clear hK K
  refine mix_pur2 rfl (fun K hK => ?_)
  go_simp
  first | refine ⟨_, fun _ => rfl, hK _ ?_⟩ | refine hK _ ?_
  clear hK K
  refine mix_eff2 rfl true rfl (fun K hK => ?_)
  go_simp
  refine hK _ _ hX3b ?_
  clear hK K
  refine mix_done2 ?_
  simp only [Nat.zero_mul, Nat.zero_add] at h3b
  generalize (wd.setCell ⟨b1, 0, none⟩ (.int .i64 5)).setCell ⟨g3, 4, none⟩ (.int .i64 1) = w5 at hX1b hX2b hX3b h1b h2b h3b hSb ⊢
  clear f0 q0 hX1a hX2a hX3a h1a h2a h3a hSa f4 q4 hX1d hX2d hX3d h1d h2d h3d hSd hX1 hX2 hX3 h14 h24 h34 hS4
  have h3c : ClsM (fun q => w2.heap.size ≤ q) w5 (.slice (some ⟨g3, 0, none⟩) 3 p3) ((bankE []).claims.set 0 ⟨1, 0, 0, 4, 1⟩) := Own.arr h3b
  have hX1c : Blk b1 #[.int .i64 5, .int .i64 2, .slice a1 3 p1] 24 w5 := hX1b
  clear hX1b h3b h3 hne1 hqd hg3 hg3l hlt1 hz02 hz23
  go_wp2_with fail
  refine (surveyed_c _).mono ?_
  rintro e w6 ⟨rfl, hB6⟩
  go_wp2_with fail
  refine (bank_c (hnil _) (by simp)).mono ?_
  rintro e w7 ⟨v7, rfl, h7, hB7⟩
  go_wp2_with fail
  refine (kCheck1 h7).mono ?_
  rintro e w8 ⟨rfl, hB8⟩
  have hB58 := bnx hB6 (bnx hB7 hB8)
  clear h7 hB6 hB7 hB8
  have c0 := (hX1c.call hB58).cell 0
  have c1 := (hX1c.call hB58).cell 1
  have c2 := (hX1c.call hB58).cell 2
  go_wp2_with fail
  refine (kCheck2 (h1b.call hB58)).mono ?_
  rintro e w9 ⟨rfl, hB9⟩
  have hB59 := bnx hB58 hB9
  clear c0 c1 c2 hB9 hB58
  have c0 := (hX2b.call hB59).cell 0
  have c1 := (hX2b.call hB59).cell 1
  have c2 := (hX2b.call hB59).cell 2
  go_wp2_with fail
  refine (kCheck3 (h2b.call hB59)).mono ?_
  rintro e w10 ⟨rfl, hB10⟩
  have hB510 := bnx hB59 hB10
  clear c0 c1 c2 hB10 hB59
  have c0 := (hX3b.call hB510).cell 0
  have c1 := (hX3b.call hB510).cell 1
  have c2 := (hX3b.call hB510).cell 2
  go_wp2_with fail
  refine (kCheck4 (h3c.call hB510)).mono ?_
  rintro e w11 ⟨rfl, hB11⟩
  have hS11 := bnx hSb (bnx hB510 hB11)
  clear c0 c1 c2 hB11 hB510 hX1c hX2b hX3b h1b h2b h3c hSb
  go_wp2_with fail
  refine (bank_c (hnil _) (by simp)).mono ?_
  rintro e w12 ⟨v12, rfl, h12, hB12⟩
  go_wp2_with fail
  refine (kApart1 h12).mono ?_
  rintro e w13 ⟨rfl, hB13⟩
  go_upto_region 6 with fail
  obtain ⟨u13, hu13⟩ : ∃ u, u = w13.alloc (.cells #[.int .i64 1, .int .i64 2] 32) := ⟨_, rfl⟩
  obtain ⟨d4, hd4⟩ : ∃ b, b = w13.heap.size := ⟨_, rfl⟩
  have hD4 : Blk d4 #[.int .i64 1, .int .i64 2] 32 u13 := by rw [hu13, hd4]; exact Blk.new _ _ _
  have hBu13 := bnx hB12 hB13
  have hBv13 := bal2 (o := .cells #[.int .i64 1, .int .i64 2] 32) hBu13
  rw [← hu13] at hBv13
  have hd4w : w.heap.size ≤ d4 := by have := hS11.size; have := hBu13.size; omega
  rw [← hu13, ← hd4]
  have hJ13 : KS w d4 1 2 u13 := ⟨bnx hS11 hBv13, hD4, hd4w⟩
  clear hu13 hd4 hS11 hBu13 hBv13 hB12 hB13 h12 hD4 hd4w
  go_wp2_with fail
  refine (bank_c (hnil _) (by simp)).mono ?_
  rintro e w14 ⟨v14, rfl, h14, hB14⟩
  go_wp2_with fail
  refine (kApart2 h14).mono ?_
  rintro e w15 ⟨rfl, hB15⟩
  go_upto_region 7 with fail
  obtain ⟨u15, hu15⟩ : ∃ u, u = w15.alloc (.cells #[.int .i64 (-3), .int .i64 (-2)] 32) := ⟨_, rfl⟩
  obtain ⟨d6, hd6⟩ : ∃ b, b = w15.heap.size := ⟨_, rfl⟩
  have hD6 : Blk d6 #[.int .i64 (-3), .int .i64 (-2)] 32 u15 := by rw [hu15, hd6]; exact Blk.new _ _ _
  have hBu15 := bnx hB14 hB15
  have hBv15 := bal2 (o := .cells #[.int .i64 (-3), .int .i64 (-2)] 32) hBu15
  rw [← hu15] at hBv15
  rw [← hu15, ← hd6]
  have hJ15 := hJ13.call hBv15
  clear hu15 hd6 hJ13 hBu15 hBv15 hB14 hB15 h14
  go_wp2_with fail
  refine (bank_c (hnil _) (by simp)).mono ?_
  rintro e w16 ⟨v16, rfl, h16, hB16⟩
  go_wp2_with fail
  refine (kApart3 h16).mono ?_
  rintro e w17 ⟨rfl, hB17⟩
  go_upto_region 8 with fail
  obtain ⟨u17, hu17⟩ : ∃ u, u = w17.alloc (.cells #[.int .i64 0, .int .i64 0] 32) := ⟨_, rfl⟩
  obtain ⟨d8, hd8⟩ : ∃ b, b = w17.heap.size := ⟨_, rfl⟩
  have hD8 : Blk d8 #[.int .i64 0, .int .i64 0] 32 u17 := by rw [hu17, hd8]; exact Blk.new _ _ _
  have hBu17 := bnx hB16 hB17
  have hBv17 := bal2 (o := .cells #[.int .i64 0, .int .i64 0] 32) hBu17
  rw [← hu17] at hBv17
  rw [← hu17, ← hd8]
  have hJ17 := hJ15.call hBv17
  have hE17 := hD6.call hBv17
  clear hu17 hd8 hJ15 hBu17 hBv17 hB16 hB17 h16 hD8 hD6
  refine wp_region_mix2 (.pur 0 (.pur 1 (.pur 2 (.pur 3 (.pur 4 (.pur 5 (.pur 6 (.pur 7 (.pur 8 (.pur 9 (.pur 10 (.one 11 (.act 12 (.pur 13 (.pur 14 (.pur 15 (.one 16 (.act 17 (.pur 18 (.act 19 .fin)))))))))))))))))))) 19 (fun w' => KS w d4 1 2 w' ∧ Blk d6 #[.int .i64 (-3), .int .i64 (-2)] 32 w') (fun w' => KS w d4 1 2 w' ∧ Blk d6 #[.int .i64 (-3), .int .i64 (-2)] 32 w') (by kernel_rfl) (by kernel_rfl) rfl (by kernel_rfl) ⟨hJ17.qt ((Qt.refl _).drewN 1), hE17.qt ((Qt.refl _).drewN 1)⟩ (fun wd hqd hRd => ?_)
  refine mix_pur2 rfl (fun K hK => ?_)
  go_simp
  first | refine ⟨_, fun _ => rfl, hK _ ?_⟩ | refine hK _ ?_
  clear hK K
  refine mix_pur2 rfl (fun K hK => ?_)
  go_simp
  first | refine ⟨_, fun _ => rfl, hK _ ?_⟩ | refine hK _ ?_
  clear hK K
  refine mix_pur2 rfl (fun K hK => ?_)
  go_simp
  first | refine ⟨_, fun _ => rfl, hK _ ?_⟩ | refine hK _ ?_
  clear hK K
  refine mix_pur2 rfl (fun K hK => ?_)
  go_simp
  first | refine ⟨_, fun _ => rfl, hK _ ?_⟩ | refine hK _ ?_
  clear hK K
  refine mix_pur2 rfl (fun K hK => ?_)
  go_simp
  first | refine ⟨_, fun _ => rfl, hK _ ?_⟩ | refine hK _ ?_
  clear hK K
  refine mix_pur2 rfl (fun K hK => ?_)
  go_simp
  first | refine ⟨_, fun _ => rfl, hK _ ?_⟩ | refine hK _ ?_
  clear hK K
  refine mix_pur2 rfl (fun K hK => ?_)
  go_simp
  first | refine ⟨_, fun _ => rfl, hK _ ?_⟩ | refine hK _ ?_
  clear hK K
  refine mix_pur2 rfl (fun K hK => ?_)
  go_simp
  first | refine ⟨_, fun _ => rfl, hK _ ?_⟩ | refine hK _ ?_
  clear hK K
  refine mix_pur2 rfl (fun K hK => ?_)
  go_simp
  first | refine ⟨_, fun _ => rfl, hK _ ?_⟩ | refine hK _ ?_
  clear hK K
  refine mix_pur2 rfl (fun K hK => ?_)
  go_simp
  first | refine ⟨_, fun _ => rfl, hK _ ?_⟩ | refine hK _ ?_
  clear hK K
  refine mix_pur2 rfl (fun K hK => ?_)
  go_simp
  first | refine ⟨_, fun _ => rfl, hK _ ?_⟩ | refine hK _ ?_
  clear hK K
  refine mix_loadg2 rfl rfl (.agg #[.int .i64 1, .int .i64 2]) (by go_simp) (fun w' h => by have h : (fun w' => KS w d4 1 2 w' ∧ Blk d6 #[.int .i64 (-3), .int .i64 (-2)] 32 w') w' := h; have h0 := h.1.2.1.cell 0; have h1 := h.1.2.1.cell 1; go_simp) rfl ?_
  refine mix_eff2 rfl false rfl (fun K hK => ?_)
  go_simp
  refine (ofr_c 1 2 _).mono ?_
  rintro e u18 ⟨rfl, hB18⟩
  have hR18 : KS w d4 1 2 u18 ∧ Blk d6 #[.int .i64 (-3), .int .i64 (-2)] 32 u18 := ⟨hRd.1.call hB18, hRd.2.call hB18⟩
  refine hK _ _ hR18 ?_
  clear hK K
  refine mix_pur2 rfl (fun K hK => ?_)
  go_simp
  first | refine ⟨_, fun _ => rfl, hK _ ?_⟩ | refine hK _ ?_
  clear hK K
  refine mix_pur2 rfl (fun K hK => ?_)
  go_simp
  first | refine ⟨_, fun _ => rfl, hK _ ?_⟩ | refine hK _ ?_
  clear hK K
  refine mix_pur2 rfl (fun K hK => ?_)
  go_simp
  first | refine ⟨_, fun _ => rfl, hK _ ?_⟩ | refine hK _ ?_
  clear hK K
  refine mix_loadg2 rfl rfl (.agg #[.int .i64 (-3), .int .i64 (-2)]) (by go_simp) (fun w' h => by have h : (fun w' => KS w d4 1 2 w' ∧ Blk d6 #[.int .i64 (-3), .int .i64 (-2)] 32 w') w' := h; have h0 := h.2.cell 0; have h1 := h.2.cell 1; go_simp) rfl ?_
  refine mix_eff2 rfl false rfl (fun K hK => ?_)
  go_simp
  refine (ofr_c (-3) (-2) _).mono ?_
  rintro e u19 ⟨rfl, hB19⟩
  have hR19 : KS w d4 1 2 u19 ∧ Blk d6 #[.int .i64 (-3), .int .i64 (-2)] 32 u19 := ⟨hR18.1.call hB19, hR18.2.call hB19⟩
  refine hK _ _ hR19 ?_
  clear hK K
  refine mix_pur2 rfl (fun K hK => ?_)
  go_simp
  first | refine ⟨_, fun _ => rfl, hK _ ?_⟩ | refine hK _ ?_
  clear hK K
  refine mix_eff2 rfl true rfl (fun K hK => ?_)
  go_simp
  refine hK _ _ hR19 ?_
  clear hK K
  refine mix_done2 ?_
  have hJ19 := hR19.1
  clear hR19 hB19 hR18 hB18 hRd hqd hJ17 hE17
  go_wp2_with fail
  refine (claim_c 4 1 4 _).mono ?_
  rintro e w20 ⟨rfl, hB20⟩
  go_wp2_with fail
  refine (claim_c 4 1 5 _).mono ?_
  rintro e w21 ⟨rfl, hB21⟩
  go_wp2_with fail
  refine (claim_c 1 2 8 _).mono ?_
  rintro e w22 ⟨rfl, hB22⟩
  have hJ22 := ((hJ19.call hB20).call hB21).call hB22
  clear hB20 hB21 hB22 hJ19
  go_upto_region 11 with fail
  obtain ⟨w23, hw23⟩ : ∃ u, u = (w22.alloc (.cells #[.int .i64 4, .int .i64 1, .int .i64 0, .int .i64 4, .int .i64 0, .int .i64 4, .int .i64 1, .int .i64 0, .int .i64 5, .int .i64 0, .int .i64 1, .int .i64 2, .int .i64 0, .int .i64 8, .int .i64 0, .int .i64 5, .int .i64 2, .int .i64 1, .int .i64 2, .int .i64 0] 27)).alloc (.cells #[.int .i64 1, .int .i64 3, .int .i64 2, .int .i64 1] 3) := ⟨_, rfl⟩
  obtain ⟨q10, hq10⟩ : ∃ b, b = w22.heap.size := ⟨_, rfl⟩
  obtain ⟨q11, hq11⟩ : ∃ b, b = w22.heap.size + 1 := ⟨_, rfl⟩
  have h10 : ClsM (fun q => w22.heap.size ≤ q) w23 (.slice (some ⟨q10, 0, none⟩) 4 4) kCl := by
    rw [hw23, hq10]
    exact Elems.call (Own.arr (own_lit w22 27 5 #[.int .i64 4, .int .i64 1, .int .i64 0, .int .i64 4, .int .i64 0, .int .i64 4, .int .i64 1, .int .i64 0, .int .i64 5, .int .i64 0, .int .i64 1, .int .i64 2, .int .i64 0, .int .i64 8, .int .i64 0, .int .i64 5, .int .i64 2, .int .i64 1, .int .i64 2, .int .i64 0] 4 rfl (by omega))) ((Below.refl _ _).alloc (Nat.le_refl _) _)
  have h11 : Ints (fun q => w22.heap.size + 1 ≤ q) w23 (.slice (some ⟨q11, 0, none⟩) 4 4) kVe := by
    have h := Own.ints (l := kVe) (n := 4) (own_lit (w22.alloc (.cells #[.int .i64 4, .int .i64 1, .int .i64 0, .int .i64 4, .int .i64 0, .int .i64 4, .int .i64 1, .int .i64 0, .int .i64 5, .int .i64 0, .int .i64 1, .int .i64 2, .int .i64 0, .int .i64 8, .int .i64 0, .int .i64 5, .int .i64 2, .int .i64 1, .int .i64 2, .int .i64 0] 27)) 3 1 #[.int .i64 1, .int .i64 3, .int .i64 2, .int .i64 1] 4 rfl (by omega))
    rw [hw23, hq11]
    simpa using h
  have hJ23 : KS w d4 1 2 w23 := by rw [hw23]; exact (hJ22.alloc _).alloc _
  rw [← hw23, ← hq11, ← hq10]
  clear hw23 hq10 hq11 hJ22
  go_wp2_with fail
  go_loopw [12] (fun vi wr => ∃ k : Nat, k ≤ 4 ∧ vi = .int .i64 k ∧ Below w23.heap.size w23 wr) (fun vi _ => 4 - (intOf vi).toNat)
  case atStart => exact ⟨0, by omega, rfl, Below.refl _ _⟩
  case round =>
    obtain ⟨k, hk, rfl, hB⟩ := hrel
    have h10r := h10.call hB
    have h11r := h11.call hB
    by_cases hlt : k < 4
    · have hdk : decide ((k : Int) < 4) = true := decide_eq_true (by omega)
      have hk4 : (k : Int) < 4 := by omega
      go_wp2_with fail
      refine wp_region_mix2 (.pur 1 (.pur 2 (.pur 3 (.one 4 (.act 0 (.act 5 (.pur 6 (.pur 7 (.pur 8 (.act 9 (.act 10 .fin))))))))))) 10 (fun w' => ClsM (fun q => w22.heap.size ≤ q) w' (.slice (some ⟨q10, 0, none⟩) 4 4) kCl) (fun w' => ClsM (fun q => w22.heap.size ≤ q) w' (.slice (some ⟨q10, 0, none⟩) 4 4) kCl) (by kernel_rfl) (by kernel_rfl) rfl (by kernel_rfl) (h10r.qt ((Qt.refl _).drewN 1)) (fun wd hqd hRd => ?_)
      refine mix_pur2 rfl (fun K hK => ?_)
      go_simp
      first | refine ⟨_, fun _ => rfl, hK _ ?_⟩ | refine hK _ ?_
      clear hK K
      refine mix_pur2 rfl (fun K hK => ?_)
      go_simp
      first | refine ⟨_, fun _ => rfl, hK _ ?_⟩ | refine hK _ ?_
      clear hK K
      refine mix_pur2 rfl (fun K hK => ?_)
      go_simp
      first | refine ⟨_, fun _ => rfl, hK _ ?_⟩ | refine hK _ ?_
      clear hK K
      refine mix_load2 rfl rfl rfl (.agg #[.int .i64 (kCl[k]'hlt).kind, .int .i64 (kCl[k]'hlt).point, .int .i64 (kCl[k]'hlt).other, .int .i64 (kCl[k]'hlt).off, .int .i64 (kCl[k]'hlt).err]) (fun w' h => by have h : (fun w' => ClsM (fun q => w22.heap.size ≤ q) w' (.slice (some ⟨q10, 0, none⟩) 4 4) kCl) w' := h; obtain ⟨d0, d1, d2, d3, d4⟩ := cls_at h k hlt; simp only [Nat.zero_add] at d0 d1 d2 d3 d4; go_simp) rfl ?_
      refine mix_eff2 rfl false rfl (fun K hK => ?_)
      go_simp
      refine (bank_c (hnil _) (by simp)).mono ?_
      rintro e w24 ⟨v24, rfl, h24, hB24⟩
      have hR24 := hRd.call hB24
      refine hK _ _ hR24 ?_
      clear hK K
      refine mix_eff2 rfl false rfl (fun K hK => ?_)
      go_simp
      refine (kFollows h24 k hlt).mono ?_
      rintro e w25 ⟨rfl, hB25⟩
      have hR25 := hR24.call hB25
      refine hK _ _ hR25 ?_
      clear hK K
      refine mix_pur2 rfl (fun K hK => ?_)
      go_simp
      first | refine ⟨_, fun _ => rfl, hK _ ?_⟩ | refine hK _ ?_
      clear hK K
      refine mix_pur2 rfl (fun K hK => ?_)
      go_simp
      first | refine ⟨_, fun _ => rfl, hK _ ?_⟩ | refine hK _ ?_
      clear hK K
      refine mix_pur2 rfl (fun K hK => ?_)
      go_simp
      first | refine ⟨_, fun _ => rfl, hK _ ?_⟩ | refine hK _ ?_
      clear hK K
      refine mix_eff2 rfl false rfl (fun K hK => ?_)
      go_simp
      refine hK _ _ hR25 ?_
      clear hK K
      refine mix_eff2 rfl true rfl (fun K hK => ?_)
      go_simp
      refine hK _ _ hR25 ?_
      clear hK K
      refine mix_done2 ?_
      have hBr := bnx hB (bnx (hqd.below _) (bnx hB24 hB25))
      have c0 := (h11.call hBr).cell k hlt
      simp only [Nat.zero_add] at c0
      go_wp2_with fail
      go_roundw
      case rel => exact ⟨k + 1, by omega, by go_num, hBr⟩
      case measure => simp [intOf]; omega
    · obtain rfl : k = 4 := by omega
      have hJ := hJ23.call hB
      clear hlt h10r h11r h10 h11 hJ23 hB hk
      have hd4x : decide (((4 : Nat) : Int) < 4) = false := by decide
      go_wp2_with fail
      refine (bank_c (hnil _) (by simp)).mono ?_
      rintro e w30 ⟨v30, rfl, h30, hB30⟩
      go_wp2_with fail
      refine (claim_c 1 2 8 _).mono ?_
      rintro e w31 ⟨rfl, hB31⟩
      go_wp2_with fail
      refine (kAdd1 (h30.call hB31)).mono ?_
      rintro e w32 ⟨v32, rfl, hB32⟩
      have hJ32 := hJ.call (bnx hB30 (bnx hB31 hB32))
      clear hJ h30 hB30 hB31 hB32
      go_wp2_with fail
      refine (bank_c (hnil _) (by simp)).mono ?_
      rintro e w33 ⟨v33, rfl, h33, hB33⟩
      go_wp2_with fail
      refine (claim_c 1 1 5 _).mono ?_
      rintro e w34 ⟨rfl, hB34⟩
      go_wp2_with fail
      refine (kAdd2 (h33.call hB34)).mono ?_
      rintro e w35 ⟨v35, rfl, h35, hB35⟩
      have hJ35 := hJ32.call (bnx hB33 (bnx hB34 hB35))
      clear hJ32 h33 hB33 hB34 hB35
      obtain ⟨a35, c35, rfl⟩ := cls_shape h35 4 rfl
      go_upto_region 19 with fail
      obtain ⟨w36, hw36⟩ : ∃ u, u = w35.alloc (.cells #[.int .i64 3, .int .i64 2, .slice a35 4 c35] 24) := ⟨_, rfl⟩
      obtain ⟨d15, hd15⟩ : ∃ b, b = w35.heap.size := ⟨_, rfl⟩
      have hX36 : Blk d15 #[.int .i64 3, .int .i64 2, .slice a35 4 c35] 24 w36 := by rw [hw36, hd15]; exact Blk.new _ _ _
      have hJ36 : KS w d4 1 2 w36 := by rw [hw36]; exact hJ35.alloc _
      have h36 := h35.call ((Below.refl w35.heap.size w35).alloc (Nat.le_refl _) (.cells #[.int .i64 3, .int .i64 2, .slice a35 4 c35] 24))
      rw [← hw36] at h36 ⊢
      rw [← hd15]
      clear hw36 hd15 hJ35 h35
      have c0 := hX36.cell 0
      have c1 := hX36.cell 1
      have c2 := hX36.cell 2
      go_wp2_with fail
      refine (kCount h36).mono ?_
      rintro e w37 ⟨rfl, hB37⟩
      have hJ37 := hJ36.call hB37
      clear c0 c1 c2
      have c0 := (hX36.call hB37).cell 0
      have c1 := (hX36.call hB37).cell 1
      have c2 := (hX36.call hB37).cell 2
      clear hJ36 hX36 h36 hB37
      go_wp2_with fail
      refine (bank_c (hnil _) (by simp)).mono ?_
      rintro e w40 ⟨v40, rfl, h40, hB40⟩
      clear c0 c1 c2
      go_wp2_with fail
      refine (kWrong1 h40).mono ?_
      rintro e w41 ⟨v41, rfl, h41, hB41⟩
      have hJ41 := hJ37.call (bnx hB40 hB41)
      clear hJ37 h40 hB40 hB41
      obtain ⟨a41, c41, rfl⟩ := ints_shape h41 0 rfl
      go_wp2_with fail
      refine (claim_c 1 1 7 _).mono ?_
      rintro e w42 ⟨rfl, hB42⟩
      go_wp2_with fail
      have hA42 := (Below.refl w42.heap.size w42).alloc (Nat.le_refl _) (.cells #[.int .i64 1, .int .i64 1, .int .i64 0, .int .i64 7, .int .i64 0] 27)
      refine (bank_c (lit1 w42 1 1 0 7 0) (by simp)).mono ?_
      rintro e w43 ⟨v43, rfl, h43, hB43⟩
      go_wp2_with fail
      refine (kWrong2 h43).mono ?_
      rintro e w44 ⟨v44, rfl, h44, hB44⟩
      have hC42 := bnx hB42 (bnx hA42 (bnx hB43 hB44))
      have hJ44 := hJ41.call hC42
      have h41b := h41.call hC42
      clear hJ41 h43 hB42 hA42 hB43 hB44 hC42 h41
      obtain ⟨a44, c44, rfl⟩ := ints_shape h44 1 rfl
      go_wp2_with fail
      refine (bank_c (hnil _) (by simp)).mono ?_
      rintro e w45 ⟨v45, rfl, h45, hB45⟩
      go_wp2_with fail
      refine (kIdle1 h45).mono ?_
      rintro e w46 ⟨v46, rfl, h46, hB46⟩
      have hC46 := bnx hB45 hB46
      have hJ46 := hJ44.call hC46
      have h44b := h44.call hC46
      have h41c := h41b.call hC46
      clear hJ44 h44 h41b h45 hB45 hB46 hC46
      obtain ⟨a46, c46, rfl⟩ := ints_shape h46 0 rfl
      go_wp2_with fail
      refine (claim_c 3 2 9 _).mono ?_
      rintro e w47 ⟨rfl, hB47⟩
      go_wp2_with fail
      have hA47 := (Below.refl w47.heap.size w47).alloc (Nat.le_refl _) (.cells #[.int .i64 3, .int .i64 2, .int .i64 0, .int .i64 9, .int .i64 0] 27)
      refine (bank_c (lit1 w47 3 2 0 9 0) (by simp)).mono ?_
      rintro e w48 ⟨v48, rfl, h48, hB48⟩
      go_wp2_with fail
      refine (kIdle2 h48).mono ?_
      rintro e w49 ⟨v49, rfl, h49, hB49⟩
      have hC47 := bnx hB47 (bnx hA47 (bnx hB48 hB49))
      have hJ49 := hJ46.call hC47
      have h46b := h46.call hC47
      have h44c := h44b.call hC47
      have h41d := h41c.call hC47
      clear hJ46 h48 hB47 hA47 hB48 hB49 hC47 h46 h44b h41c
      obtain ⟨a49, c49, rfl⟩ := ints_shape h49 1 rfl
      go_wp2_with fail
      have hA49 := (Below.refl w49.heap.size w49).alloc (Nat.le_refl _) (.cells #[.int .i64 3] 3)
      refine (sameInts_q (h44c.call hA49) (Own.ints (l := [3]) (n := 1) (own_lit w49 3 1 #[.int .i64 3] 1 rfl (by omega)))).mono ?_
      rintro e w50 ⟨rfl, hq50⟩
      have hC50 := bnx hA49 (hq50.below _)
      go_wp2_with fail
      have hA50 := (Below.refl w50.heap.size w50).alloc (Nat.le_refl _) (.cells #[.int .i64 3] 3)
      refine (sameInts_q ((h49.call hC50).call hA50) (Own.ints (l := [3]) (n := 1) (own_lit w50 3 1 #[.int .i64 3] 1 rfl (by omega)))).mono ?_
      rintro e w51 ⟨rfl, hq51⟩
      have hJ51 := hJ49.call (bnx hC50 (bnx hA50 (hq51.below _)))
      clear hJ49 hC50 hA50 hq51 hA49 hq50 h44c h49 h46b h41d
      go_wp2_with fail
      refine (ofr_c 0 0 _).mono ?_
      rintro e w52 ⟨rfl, hB52⟩
      go_wp2_with fail
      refine (ofr_c 0 0 _).mono ?_
      rintro e w53 ⟨rfl, hB53⟩
      go_wp2_with fail
      refine (ofr_c 0 0 _).mono ?_
      rintro e w54 ⟨rfl, hB54⟩
      have hJ54 := hJ51.call (bnx hB52 (bnx hB53 hB54))
      clear hJ51 hB52 hB53 hB54
      go_wp2_with fail
      have hR22 := rgs3 w54 0 0 0 0 0 0
      have hY : Ints (fun q => w54.heap.size + 1 ≤ q) ((w54.alloc (.cells #[.int .i64 0, .int .i64 0, .int .i64 0, .int .i64 0, .int .i64 0, .int .i64 0] 32)).alloc (.cells #[.int .i64 2, .int .i64 3, .int .i64 8] 3)) (.slice (some ⟨w54.heap.size + 1, 0, none⟩) 3 3) kYe := by
        have h := Own.ints (l := kYe) (n := 3) (own_lit (w54.alloc (.cells #[.int .i64 0, .int .i64 0, .int .i64 0, .int .i64 0, .int .i64 0, .int .i64 0] 32)) 3 1 #[.int .i64 2, .int .i64 3, .int .i64 8] 3 rfl (by omega))
        simpa using h
      have hR22b := hR22.call ((Below.refl (w54.alloc (.cells #[.int .i64 0, .int .i64 0, .int .i64 0, .int .i64 0, .int .i64 0, .int .i64 0] 32)).heap.size (w54.alloc (.cells #[.int .i64 0, .int .i64 0, .int .i64 0, .int .i64 0, .int .i64 0, .int .i64 0] 32))).alloc (Nat.le_refl _) (.cells #[.int .i64 2, .int .i64 3, .int .i64 8] 3))
      have hJ54b := (hJ54.alloc (.cells #[.int .i64 0, .int .i64 0, .int .i64 0, .int .i64 0, .int .i64 0, .int .i64 0] 32)).alloc (.cells #[.int .i64 2, .int .i64 3, .int .i64 8] 3)
      obtain ⟨u54, hu54⟩ : ∃ u, u = (w54.alloc (.cells #[.int .i64 0, .int .i64 0, .int .i64 0, .int .i64 0, .int .i64 0, .int .i64 0] 32)).alloc (.cells #[.int .i64 2, .int .i64 3, .int .i64 8] 3) := ⟨_, rfl⟩
      obtain ⟨q22, hq22⟩ : ∃ q, q = w54.heap.size := ⟨_, rfl⟩
      obtain ⟨q23, hq23⟩ : ∃ q, q = w54.heap.size + 1 := ⟨_, rfl⟩
      rw [← hu54] at hR22b hY hJ54b ⊢
      rw [← hq22] at hR22b
      rw [← hq23] at hY
      rw [← hq23, ← hq22]
      clear hR22 hJ54 hu54 hq22 hq23
      refine (ofr_c 0 0 _).mono ?_
      rintro e w55 ⟨rfl, hB55⟩
      go_wp2_with fail
      refine (ofr_c 1 2 _).mono ?_
      rintro e w56 ⟨rfl, hB56⟩
      go_wp2_with fail
      refine (ofr_c 0 1 _).mono ?_
      rintro e w57 ⟨rfl, hB57⟩
      have hC57 := bnx hB55 (bnx hB56 hB57)
      have hJ57 := hJ54b.call hC57
      have hR57 := hR22b.call hC57
      have hY57 := hY.call hC57
      clear hB55 hB56 hB57 hC57 hJ54b hR22b hY
      go_upto_region 30 with fail
      have hR46 := rgs3 w57 0 0 1 2 0 1
      obtain ⟨q46, hq46⟩ : ∃ q, q = w57.heap.size := ⟨_, rfl⟩
      have hA57 := (Below.refl w57.heap.size w57).alloc (Nat.le_refl _) (.cells #[.int .i64 0, .int .i64 0, .int .i64 1, .int .i64 2, .int .i64 0, .int .i64 1] 32)
      have hA58 := (Below.refl (w57.alloc (.cells #[.int .i64 0, .int .i64 0, .int .i64 1, .int .i64 2, .int .i64 0, .int .i64 1] 32)).heap.size (w57.alloc (.cells #[.int .i64 0, .int .i64 0, .int .i64 1, .int .i64 2, .int .i64 0, .int .i64 1] 32))).alloc (Nat.le_refl _) (.cells #[.slice (some ⟨q22, 0, none⟩) 3 3, .slice (some ⟨q22, 0, none⟩) 3 3, .slice (some ⟨q46, 0, none⟩) 3 3] 46)
      have hV : Blk (w57.heap.size + 1) #[.slice (some ⟨q22, 0, none⟩) 3 3, .slice (some ⟨q22, 0, none⟩) 3 3, .slice (some ⟨q46, 0, none⟩) 3 3] 46 ((w57.alloc (.cells #[.int .i64 0, .int .i64 0, .int .i64 1, .int .i64 2, .int .i64 0, .int .i64 1] 32)).alloc (.cells #[.slice (some ⟨q22, 0, none⟩) 3 3, .slice (some ⟨q22, 0, none⟩) 3 3, .slice (some ⟨q46, 0, none⟩) 3 3] 46)) := blk_at (by simp) _ _
      have hR46b := hR46.call hA58
      have hJ58 := (hJ57.call hA57).call hA58
      have hR22 := (hR57.call hA57).call hA58
      have hY58 := (hY57.call hA57).call hA58
      obtain ⟨u58, hu58⟩ : ∃ u, u = (w57.alloc (.cells #[.int .i64 0, .int .i64 0, .int .i64 1, .int .i64 2, .int .i64 0, .int .i64 1] 32)).alloc (.cells #[.slice (some ⟨q22, 0, none⟩) 3 3, .slice (some ⟨q22, 0, none⟩) 3 3, .slice (some ⟨q46, 0, none⟩) 3 3] 46) := ⟨_, rfl⟩
      obtain ⟨q47, hq47⟩ : ∃ q, q = q46 + 1 := ⟨_, rfl⟩
      rw [← hq46] at hR46b
      rw [← hu58] at hR46b hJ58 hR22 hY58 hV
      rw [← hq46, ← hq47] at hV
      rw [← hq46, ← hu58, ← hq47]
      clear hu58 hq47 hq46 hA57 hA58 hR46 hJ57 hR57 hY57
      go_wp2_with fail
      go_loopw [25] (fun vi wr => ∃ k : Nat, k ≤ 3 ∧ vi = .int .i64 k ∧ Below u58.heap.size u58 wr) (fun vi _ => 3 - (intOf vi).toNat)
      case atStart => exact ⟨0, by omega, rfl, Below.refl _ _⟩
      case round =>
        rename World => wr2
        obtain ⟨k, hk, rfl, hB⟩ := hrel
        have hYr := hY58.call hB
        have hVr := hV.call hB
        have hRr := hR22.call hB
        have hQr := hR46b.call hB
        by_cases hlt : k < 3
        · have hdk : decide ((k : Int) < 3) = true := decide_eq_true (by omega)
          have hk4 : (k : Int) < 3 := by omega
          go_wp2_with fail
          refine wp_region_mix2 (.pur 2 (.pur 3 (.pur 4 (.one 5 (.act 0 (.act 1 (.act 6 (.pur 7 (.pur 8 (.pur 9 (.pur 10 (.act 11 .fin)))))))))))) 11 (fun w' => Ints (fun q => q23 ≤ q) w' (.slice (some ⟨q23, 0, none⟩) 3 3) kYe) (fun w' => Ints (fun q => q23 ≤ q) w' (.slice (some ⟨q23, 0, none⟩) 3 3) kYe) (by kernel_rfl) (by kernel_rfl) rfl (by kernel_rfl) (hYr.qt ((Qt.refl _).drewN 1)) (fun wd hqd hRd => ?_)
          refine mix_pur2 rfl (fun K hK => ?_)
          go_simp
          first | refine ⟨_, fun _ => rfl, hK _ ?_⟩ | refine hK _ ?_
          clear hK K
          refine mix_pur2 rfl (fun K hK => ?_)
          go_simp
          first | refine ⟨_, fun _ => rfl, hK _ ?_⟩ | refine hK _ ?_
          clear hK K
          refine mix_pur2 rfl (fun K hK => ?_)
          go_simp
          first | refine ⟨_, fun _ => rfl, hK _ ?_⟩ | refine hK _ ?_
          clear hK K
          refine mix_load2 rfl rfl rfl (.int .i64 (kYe[k]'hlt)) (fun w' h => by have h : (fun w' => Ints (fun q => q23 ≤ q) w' (.slice (some ⟨q23, 0, none⟩) 3 3) kYe) w' := h; have d0 := h.cell k hlt; simp only [Nat.zero_add] at d0; go_simp) rfl ?_
          refine mix_eff2 rfl false rfl (fun K hK => ?_)
          go_simp
          refine (bank_c (hnil _) (by simp)).mono ?_
          rintro e w60 ⟨v60, rfl, h60, hB60⟩
          have hR60 := hRd.call hB60
          refine hK _ _ hR60 ?_
          clear hK K
          refine mix_eff2 rfl false rfl (fun K hK => ?_)
          go_simp
          refine (ploughs_c _).mono ?_
          rintro e w61 ⟨v61, rfl, h61, hB61⟩
          have hR61 := hR60.call hB61
          refine hK _ _ hR61 ?_
          clear hK K
          refine mix_eff2 rfl false rfl (fun K hK => ?_)
          go_simp
          refine (kTaken (h60.call hB61) h61 k hlt).mono ?_
          rintro e w62 ⟨v62, rfl, h62, hB62⟩
          have hR62 := hR61.call hB62
          obtain ⟨a62, c62, rfl⟩ := rgs_shape h62 3 (by match k, hlt with | 0, _ => rfl | 1, _ => rfl | 2, _ => rfl)
          refine hK _ _ hR62 ?_
          clear hK K
          refine mix_pur2 rfl (fun K hK => ?_)
          go_simp
          first | refine ⟨_, fun _ => rfl, hK _ ?_⟩ | refine hK _ ?_
          clear hK K
          refine mix_pur2 rfl (fun K hK => ?_)
          go_simp
          first | refine ⟨_, fun _ => rfl, hK _ ?_⟩ | refine hK _ ?_
          clear hK K
          refine mix_pur2 rfl (fun K hK => ?_)
          go_simp
          first | refine ⟨_, fun _ => rfl, hK _ ?_⟩ | refine hK _ ?_
          clear hK K
          refine mix_pur2 rfl (fun K hK => ?_)
          go_simp
          first | refine ⟨_, fun _ => rfl, hK _ ?_⟩ | refine hK _ ?_
          clear hK K
          refine mix_eff2 rfl true rfl (fun K hK => ?_)
          go_simp
          refine hK _ _ hR62 ?_
          clear hK K
          refine mix_done2 ?_
          have hBx := bnx (hqd.below _) (bnx hB60 (bnx hB61 hB62))
          have hBr := bnx hB hBx
          obtain ⟨a63, c63, e63, hR63⟩ := k47 (hVr.call hBx) (hRr.call hBx) (hQr.call hBx) k hlt
          go_wp2_with fail
          refine (sameRanges_q h62 hR63).mono ?_
          rintro e w64 ⟨⟨b, rfl, hb⟩, hq64⟩
          obtain rfl : b = true := hb.2 rfl
          go_wp2_with fail
          go_roundw
          case rel => exact ⟨k + 1, by omega, by go_num, bnx hBr (hq64.below _)⟩
          case measure => simp [intOf]; omega
        · obtain rfl : k = 3 := by omega
          have hJ := hJ58.call hB
          clear hlt hYr hVr hRr hQr hJ58 hB hk hV hR22 hR46b hY58
          have hd3x : decide (((3 : Nat) : Int) < 3) = false := by decide
          go_wp2_with fail
          refine (bank_c (hnil _) (by simp)).mono ?_
          rintro e w70 ⟨v70, rfl, h70, hB70⟩
          go_wp2_with fail
          refine (ploughs_c _).mono ?_
          rintro e w71 ⟨v71, rfl, h71, hB71⟩
          go_wp2_with fail
          refine (kEncr (h70.call hB71) h71).mono ?_
          rintro e w72 ⟨v72, rfl, h72, hB72⟩
          have hJ72 := hJ.call (bnx hB70 (bnx hB71 hB72))
          clear hJ hB70 hB71 hB72 h70 h71
          obtain ⟨a72, c72, rfl⟩ := ints_shape h72 3 rfl
          go_wp2_with fail
          have hA72 := (Below.refl w72.heap.size w72).alloc (Nat.le_refl _) (.cells #[.int .i64 2, .int .i64 2, .int .i64 2] 3)
          refine (sameInts_q (h72.call hA72) (Own.ints (l := [2, 2, 2]) (n := 3) (own_lit w72 3 1 #[.int .i64 2, .int .i64 2, .int .i64 2] 3 rfl (by omega)))).mono ?_
          rintro e w73 ⟨rfl, hq73⟩
          have hJ73 := (hJ72.call hA72).qt hq73
          clear hJ72 hA72 hq73 h72
          go_upto_region 40 with fail
          obtain ⟨w74, hw74⟩ : ∃ u, u = (w73.alloc (.cells #[.int .i64 (-1), .int .i64 8, .int .i64 5] 3)).alloc (.cells #[.int .i64 (-1), .int .i64 8, .int .i64 (-1)] 3) := ⟨_, rfl⟩
          obtain ⟨q28, hq28⟩ : ∃ b, b = w73.heap.size := ⟨_, rfl⟩
          obtain ⟨q29, hq29⟩ : ∃ b, b = w73.heap.size + 1 := ⟨_, rfl⟩
          have h28 : Ints (fun q => w73.heap.size ≤ q) w74 (.slice (some ⟨q28, 0, none⟩) 3 3) kMa := by
            rw [hw74, hq28]
            exact Ints.call (Own.ints (l := kMa) (n := 3) (own_lit w73 3 1 #[.int .i64 (-1), .int .i64 8, .int .i64 5] 3 rfl (by omega))) ((Below.refl _ _).alloc (Nat.le_refl _) _)
          have h29 : Ints (fun q => w73.heap.size + 1 ≤ q) w74 (.slice (some ⟨q29, 0, none⟩) 3 3) kSu := by
            have h := Own.ints (l := kSu) (n := 3) (own_lit (w73.alloc (.cells #[.int .i64 (-1), .int .i64 8, .int .i64 5] 3)) 3 1 #[.int .i64 (-1), .int .i64 8, .int .i64 (-1)] 3 rfl (by omega))
            rw [hw74, hq29]
            simpa using h
          have hJ74 : KS w d4 1 2 w74 := by rw [hw74]; exact (hJ73.alloc _).alloc _
          rw [← hw74, ← hq29, ← hq28]
          clear hw74 hq28 hq29 hJ73
          go_wp2_with fail
          go_loopw [30] (fun vi wr => ∃ k : Nat, k ≤ 3 ∧ vi = .int .i64 k ∧ Below w74.heap.size w74 wr) (fun vi _ => 3 - (intOf vi).toNat)
          case atStart => exact ⟨0, by omega, rfl, Below.refl _ _⟩
          case round =>
            rename World => wr3
            obtain ⟨k, hk, rfl, hB⟩ := hrel
            have h28r := h28.call hB
            have h29r := h29.call hB
            by_cases hlt : k < 3
            · have hdk : decide ((k : Int) < 3) = true := decide_eq_true (by omega)
              have hk4 : (k : Int) < 3 := by omega
              go_wp2_with fail
              refine (bank_c (hnil _) (by simp)).mono ?_
              rintro e w80 ⟨v80, rfl, h80, hB80⟩
              go_wp2_with fail
              refine (ploughs_c _).mono ?_
              rintro e w81 ⟨v81, rfl, h81, hB81⟩
              go_wp2_with fail
              refine (kSince (h80.call hB81) h81 k hlt).mono ?_
              rintro e w82 ⟨rfl, hB82⟩
              have hBx := bnx hB80 (bnx hB81 hB82)
              have hBr := bnx hB hBx
              have d0 := (h28r.call hBx).cell k hlt
              have d1 := (h29r.call hBx).cell k hlt
              simp only [Nat.zero_add] at d0 d1
              go_wp2_with fail
              go_roundw
              case rel => exact ⟨k + 1, by omega, by go_num, hBr⟩
              case measure => simp [intOf]; omega
            · obtain rfl : k = 3 := by omega
              have hJ := hJ74.call hB
              clear hlt h28r h29r hJ74 hB hk h28 h29
              have hd3x : decide (((3 : Nat) : Int) < 3) = false := by decide
              go_wp2_with fail
              refine (bank_c (hnil _) (by simp)).mono ?_
              rintro e w90 ⟨v90, rfl, h90, hB90⟩
              go_wp2_with fail
              refine (ploughs_c _).mono ?_
              rintro e w91 ⟨v91, rfl, h91, hB91⟩
              go_wp2_with fail
              refine (kFine1 (h90.call hB91) h91).mono ?_
              rintro e w92 ⟨rfl, hB92⟩
              have hJ92 := hJ.call (bnx hB90 (bnx hB91 hB92))
              clear hJ hB90 hB91 hB92 h90 h91
              have f0 := hJ92.2.1.free 0
              have f1 := hJ92.2.1.free 1
              have c0 := hJ92.2.1.cell 0
              have c1 := hJ92.2.1.cell 1
              go_upto_region 47 with fail
              clear f0 f1 c0 c1
              have hJ93 : KS w d4 0 0 ((w92.setCell ⟨d4, 0, none⟩ (.int .i64 0)).setCell ⟨d4, 1, none⟩ (.int .i64 0)) := ⟨(hJ92.1.setCell (p := ⟨d4, 0, none⟩) hJ92.2.2 (.int .i64 0)).setCell (p := ⟨d4, 1, none⟩) hJ92.2.2 (.int .i64 0), (hJ92.2.1.set 0 (.int .i64 0)).set 1 (.int .i64 0), hJ92.2.2⟩
              generalize (w92.setCell ⟨d4, 0, none⟩ (.int .i64 0)).setCell ⟨d4, 1, none⟩ (.int .i64 0) = w93 at hJ93 ⊢
              clear hJ92
              go_wp2_with fail
              refine (bank_c (hnil _) (by simp)).mono ?_
              rintro e w94 ⟨v94, rfl, h94, hB94⟩
              go_wp2_with fail
              refine (ploughs_c _).mono ?_
              rintro e w95 ⟨v95, rfl, h95, hB95⟩
              go_wp2_with fail
              refine (kFine2 (h94.call hB95) h95).mono ?_
              rintro e w96 ⟨rfl, hB96⟩
              have hJ96 := hJ93.call (bnx hB94 (bnx hB95 hB96))
              clear hJ93 hB94 hB95 hB96 h94 h95
              go_wp2_with fail
              refine (bank_c (hnil _) (by simp)).mono ?_
              rintro e w97 ⟨v97, rfl, h97, hB97⟩
              go_wp2_with fail
              refine (ploughs_c _).mono ?_
              rintro e w98 ⟨v98, rfl, h98, hB98⟩
              go_wp2_with fail
              refine (kWrite (h97.call hB98) h98).mono ?_
              rintro e w99 ⟨rfl, hB99⟩
              have hJ99 := hJ96.call (bnx hB97 (bnx hB98 hB99))
              clear hJ96 hB97 hB98 hB99 h97 h98
              go_upto_region 49 with fail
              refine wp_region_mix2 (.pur 0 (.pur 1 (.pur 2 (.pur 3 (.pur 4 (.pur 5 (.pur 6 (.pur 7 (.pur 8 (.pur 9 (.pur 10 (.one 11 (.act 12 (.pur 13 (.pur 14 (.pur 15 (.pur 16 (.pur 17 (.pur 18 (.act 19 .fin)))))))))))))))))))) 19 (fun w' => KS w d4 0 0 w') (fun w' => KS w d4 0 0 w') (by kernel_rfl) (by kernel_rfl) rfl (by kernel_rfl) (hJ99.qt ((Qt.refl _).drewN 1)) (fun wd hqd hRd => ?_)
              refine mix_pur2 rfl (fun K hK => ?_)
              go_simp
              first | refine ⟨_, fun _ => rfl, hK _ ?_⟩ | refine hK _ ?_
              clear hK K
              refine mix_pur2 rfl (fun K hK => ?_)
              go_simp
              first | refine ⟨_, fun _ => rfl, hK _ ?_⟩ | refine hK _ ?_
              clear hK K
              refine mix_pur2 rfl (fun K hK => ?_)
              go_simp
              first | refine ⟨_, fun _ => rfl, hK _ ?_⟩ | refine hK _ ?_
              clear hK K
              refine mix_pur2 rfl (fun K hK => ?_)
              go_simp
              first | refine ⟨_, fun _ => rfl, hK _ ?_⟩ | refine hK _ ?_
              clear hK K
              refine mix_pur2 rfl (fun K hK => ?_)
              go_simp
              first | refine ⟨_, fun _ => rfl, hK _ ?_⟩ | refine hK _ ?_
              clear hK K
              refine mix_pur2 rfl (fun K hK => ?_)
              go_simp
              first | refine ⟨_, fun _ => rfl, hK _ ?_⟩ | refine hK _ ?_
              clear hK K
              refine mix_pur2 rfl (fun K hK => ?_)
              go_simp
              first | refine ⟨_, fun _ => rfl, hK _ ?_⟩ | refine hK _ ?_
              clear hK K
              refine mix_pur2 rfl (fun K hK => ?_)
              go_simp
              first | refine ⟨_, fun _ => rfl, hK _ ?_⟩ | refine hK _ ?_
              clear hK K
              refine mix_pur2 rfl (fun K hK => ?_)
              go_simp
              first | refine ⟨_, fun _ => rfl, hK _ ?_⟩ | refine hK _ ?_
              clear hK K
              refine mix_pur2 rfl (fun K hK => ?_)
              go_simp
              first | refine ⟨_, fun _ => rfl, hK _ ?_⟩ | refine hK _ ?_
              clear hK K
              refine mix_pur2 rfl (fun K hK => ?_)
              go_simp
              first | refine ⟨_, fun _ => rfl, hK _ ?_⟩ | refine hK _ ?_
              clear hK K
              refine mix_loadg2 rfl rfl (.agg #[.int .i64 0, .int .i64 0]) (by go_simp) (fun w' h => by have h : (fun w' => KS w d4 0 0 w') w' := h; have h0 := h.2.1.cell 0; have h1 := h.2.1.cell 1; go_simp) rfl ?_
              refine mix_eff2 rfl false rfl (fun K hK => ?_)
              go_simp
              refine (ofr_c 0 0 _).mono ?_
              rintro e u12 ⟨rfl, hB12⟩
              have hR12 := KS.call hRd hB12
              refine hK _ _ hR12 ?_
              clear hK K
              refine mix_pur2 rfl (fun K hK => ?_)
              go_simp
              first | refine ⟨_, fun _ => rfl, hK _ ?_⟩ | refine hK _ ?_
              clear hK K
              refine mix_pur2 rfl (fun K hK => ?_)
              go_simp
              first | refine ⟨_, fun _ => rfl, hK _ ?_⟩ | refine hK _ ?_
              clear hK K
              refine mix_pur2 rfl (fun K hK => ?_)
              go_simp
              first | refine ⟨_, fun _ => rfl, hK _ ?_⟩ | refine hK _ ?_
              clear hK K
              refine mix_pur2 rfl (fun K hK => ?_)
              go_simp
              first | refine ⟨_, fun _ => rfl, hK _ ?_⟩ | refine hK _ ?_
              clear hK K
              refine mix_pur2 rfl (fun K hK => ?_)
              go_simp
              first | refine ⟨_, fun _ => rfl, hK _ ?_⟩ | refine hK _ ?_
              clear hK K
              refine mix_pur2 rfl (fun K hK => ?_)
              go_simp
              first | refine ⟨_, fun _ => rfl, hK _ ?_⟩ | refine hK _ ?_
              clear hK K
              refine mix_eff2 rfl true rfl (fun K hK => ?_)
              go_simp
              refine hK _ _ hR12 ?_
              clear hK K
              refine mix_done2 ?_
              go_wp2
              go_ret
              refine ⟨?_, hR12.1⟩
              show Ending.returned (.bool ((str txK).toList == txK)) = _
              rw [show (str txK).toList = txK from ByteArray.toList_mk txK, beq_self_eq_true]

end Go.Proofs.YtgljiabmfcobiaaDoor
