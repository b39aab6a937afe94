/- The iterator over divisions and a range over it; conditions: as said at each. -/
import Derived.Test.YtmlikgjfpmjdcaaGreatDoorA9
import Derived.Laws.EntriesVeiled
/- The contract of divisions' take, from grow's; conditions: as said. -/
namespace Go.Proofs.YtmlikgjfpmjdcaaGreatDoor
open Go.RowKit

def GrowOK (s n lr nb : Nat) (J Jx : (Nat → Prop) → List (List Int) → World → Prop) (r : Nat) : Prop :=
  ∀ own pre rest W cur m vl, ItS s n lr nb own vl cur m W → J own pre W → cur.length + r = n → divs n = pre ++ exts n r cur ++ rest →
    Calls Tryz.prog 74 #[.pointer (some ⟨s + 1, 0, none⟩), .pointer (some ⟨nb, 0, none⟩), .pointer (some ⟨s, 0, none⟩), .pointer (some ⟨s + 2, 0, none⟩), .pointer (some ⟨s + 3, 0, none⟩)] W
      (GrowEnd s n lr nb J Jx own vl cur m pre (exts n r cur) W)
def TakeOK (s n lr nb : Nat) (J Jx : (Nat → Prop) → List (List Int) → World → Prop) (r : Nat) : Prop :=
  ∀ own pre rest W cur m vl (x : Nat), ItS s n lr nb own vl cur m W → J own pre W → x < n → (x : Int) ∉ cur → cur.length + (r + 1) = n → divs n = pre ++ exts n r (cur ++ [(x : Int)]) ++ rest →
    Calls Tryz.prog 72 #[.int .i64 x, .pointer (some ⟨s + 1, 0, none⟩), .pointer (some ⟨s + 2, 0, none⟩), .pointer (some ⟨s + 4, 0, none⟩)] W
      (GrowEnd s n lr nb J Jx own vl cur m pre (exts n r (cur ++ [(x : Int)])) W)

theorem PopS.alloc {lb fb mb : Nat} {v : Value} {fr x : Nat} {w : World} (h : PopS lb fb mb v fr x w) (o : Obj) : PopS lb fb mb v fr x (w.alloc o) := ⟨h.1.alloc o, h.2.1.alloc o, h.2.2.alloc o⟩
theorem PopS.keep {lb fb mb : Nat} {v : Value} {fr x : Nat} {w w' : World} (h : PopS lb fb mb v fr x w) (hb : ∀ k, k = lb ∨ k = fb ∨ k = mb → w'.heap[k]? = w.heap[k]?) : PopS lb fb mb v fr x w' :=
  ⟨h.1.keep (hb _ (.inl rfl)), h.2.1.keep (hb _ (.inr (.inl rfl))), h.2.2.keep (hb _ (.inr (.inr rfl)))⟩

theorem ItS.other {s n lr nb m : Nat} {own : Nat → Prop} {vl : Value} {cur : List Int} {W : World} (h : ItS s n lr nb own vl cur m W) (k : Nat) (hk : k < s + 5) : vl.ownBlock ≠ some k := fun e => by have := (h.row.lt k e).1; omega

/-- A step more. -/
theorem its_push {s n lr nb m m' : Nat} {own : Nat → Prop} {vl vn : Value} {cur cur' : List Int} {W W' : World} (h : ItS s n lr nb own vl cur m W)
    (hk : ∀ k, k < s + 5 → k ≠ s + 1 → k ≠ s + 2 → W'.heap[k]? = W.heap[k]?) (hl : Blk (s + 1) #[vn] 22 W') (hf : Blk (s + 2) #[.int .u8 m'] 89 W')
    (hr : Own (s + 5) W' 3 1 vn cur'.length (I64 cur')) (hm : MaskOf n m' cur') (hv : ∀ k, vn.ownBlock = some k → ¬ own k) : ItS s n lr nb own vn cur' m' W' :=
  ⟨h.ns, h.bn.keep (hk _ (by have := h.ns; omega) (by have := h.ns; omega) (by have := h.ns; omega)), h.by_.keep (hk _ (by omega) (by omega) (by omega)), hl, hf, h.bt.keep (hk _ (by omega) (by omega) (by omega)), h.bg.keep (hk _ (by omega) (by omega) (by omega)), hr, hm, h.n0, h.n1, hv⟩

set_option maxRecDepth 100000 in
set_option maxHeartbeats 2000000 in
theorem take_step {s n lr nb r : Nat} (hn4 : n ≤ 4) {J Jx : (Nat → Prop) → List (List Int) → World → Prop} (sJ : Side J) (sJx : Side Jx) (hG : GrowOK s n lr nb J Jx r) : TakeOK s n lr nb J Jx r := by
  intro own pre rest W cur m vl x hI hJ hx hin hlen hall
  have hlt := sJ.lt own pre W hJ
  have hx4 : x < 4 := by omega
  have hm16 := hI.mask.1
  have hgl := hI.bg.lt
  have hS0 : PopS (s + 1) (s + 2) W.heap.size vl m x (W.alloc (.cells #[.int .i64 (x : Int)] 3)).drew := by
    exact ⟨hI.bl.alloc _, hI.bf.alloc _, Blk.new W _ _⟩
  have hrow0 : Own (s + 5) (W.alloc (.cells #[.int .i64 (x : Int)] 3)) 3 1 vl cur.length (I64 cur) := by exact Own.alloc hI.row _
  have hsz : s + 5 ≤ W.heap.size := by omega
  have hvl : ∀ k, k = s + 1 ∨ k = s + 2 ∨ k = W.heap.size → vl.ownBlock ≠ some k := by
    intro k hk e
    have h1 := hI.row.lt k e
    omega
  go_enter_defers Tryz.func72, Tryz.ntmps72
  go_wp2_with fail
  refine wp_region_mix (.one 0 (.one 1 (.one 4 (.pur 5 (.act 2 (.act 3 (.act 6 (.act 7 (.act 8 .fin))))))))) 7 (PopS (s + 1) (s + 2) W.heap.size vl m x) (Blk W.heap.size #[.int .i64 (x : Int)] 3) (by kernel_rfl) (by kernel_rfl) rfl (by kernel_rfl) hS0 (fun w1 hq1 hS1 => ?_)
  have hz1 : W.heap.size + 1 ≤ w1.heap.size := by rw [hq1.size]; simp
  have hrow1 := (hrow0.qt hq1)
  have hs2 : s + 5 ≤ (w1.alloc (.cells #[.int .i64 (x : Int)] 3)).heap.size := by simp; omega
  have hSt : ∀ vn w3, Turned (w1.alloc (.cells #[.int .i64 (x : Int)] 3)) w3 vl vn → PopS (s + 1) (s + 2) W.heap.size vl m x w3 := fun vn w3 hT3 => (hS1.alloc _).keep fun k hk => hT3.block k (by simp; omega) (hvl k hk)
  refine mix_load rfl rfl rfl vl (fun w' h => by have h : (PopS (s + 1) (s + 2) W.heap.size vl m x) w' := h; have h := h.1.cell 0; go_simp) rfl ?_
  refine mix_load rfl rfl rfl (.int .i64 x) (fun w' h => by have h : (PopS (s + 1) (s + 2) W.heap.size vl m x) w' := h; have h := h.2.2.cell 0; go_simp) rfl ?_
  refine mix_load rfl rfl rfl (.int .u8 m) (fun w' h => by have h : (PopS (s + 1) (s + 2) W.heap.size vl m x) w' := h; have h := h.2.1.cell 0; go_simp) rfl ?_
  refine mix_pload rfl rfl rfl (.int .i64 x) (fun w' h => by have h : (PopS (s + 1) (s + 2) W.heap.size vl m x) w' ∨ (Blk W.heap.size #[.int .i64 (x : Int)] 3) w' := h; have h := (h.elim (fun h => h.2.2) id).cell 0; go_simp) rfl ?_
  refine mix_eff rfl false rfl (fun K hK => ?_)
  go_simp
  refine hK _ _ (hS1.alloc _) ?_
  clear hK K
  refine mix_eff rfl false rfl (fun K hK => ?_)
  refine step_append_arr rfl _ _ 22 rfl 3 (.int .i64 0) 1 8 Tryz.underlying22 Tryz.info3 rfl (by decide) (by decide) (hs2) (hrow1.alloc _) rfl (arr_one w1 3 (.int .i64 x)) rfl rfl (one_int _) (by omega) (fun vn w3 ho3 hT3 => ?_)
  have ho4 : Own (s + 5) w3 3 1 vn (cur.length + 1) (I64 (cur ++ [(x : Int)])) := by rw [I64_append]; exact ho3
  obtain ⟨gn, capn, rfl, hgn1, hgn2⟩ := own_shape ho4 (by omega)
  have hS3 := hSt _ w3 hT3
  refine hK _ _ hS3 ?_
  clear hK K
  refine mix_eff rfl false rfl (fun K hK => ?_)
  go_simp
  refine (without_c m x hm16 hx4 _).mono ?_
  rintro e w4 ⟨rfl, rfl⟩
  refine hK _ _ hS3 ?_
  clear hK K
  refine mix_eff rfl true rfl (fun K hK => ?_)
  have h0 := hS3.1.cell 0
  have f0 := hS3.1.free 0
  go_simp
  refine hK _ _ (hS3.2.2.other (a := ⟨s + 1, 0, none⟩) (by simp; omega) _) ?_
  clear hK K h0 f0
  refine mix_eff rfl true rfl (fun K hK => ?_)
  have h0 := (hS3.2.1.other (a := ⟨s + 1, 0, none⟩) (by simp) (.slice (some ⟨gn, 0, none⟩) (cur.length + 1) capn)).cell 0
  have f0 := (hS3.2.1.other (a := ⟨s + 1, 0, none⟩) (by simp) (.slice (some ⟨gn, 0, none⟩) (cur.length + 1) capn)).free 0
  go_simp
  refine hK _ _ ((hS3.2.2.other (a := ⟨s + 1, 0, none⟩) (by simp; omega) _).other (a := ⟨s + 2, 0, none⟩) (by simp; omega) _) ?_
  clear hK K
  refine mix_done ?_
  clear h0 f0 hS0 hrow0 hSt
  have hvn : ∀ k, k < W.heap.size → vl.ownBlock ≠ some k → (Value.slice (some ⟨gn, 0, none⟩) (cur.length + 1) capn).ownBlock ≠ some k := fun k hk hv e => by
    rcases hT3.place with e1 | e1
    · exact hv (e1 ▸ e)
    · rw [e1] at e; injection e with e; simp at e; omega
  have hvo : ∀ k, (Value.slice (some ⟨gn, 0, none⟩) (cur.length + 1) capn).ownBlock = some k → ¬ own k := fun k e ho => by
    rcases hT3.place with e1 | e1
    · exact hI.n2 k (e1 ▸ e) ho
    · rw [e1] at e; injection e with e; have := hlt k ho; simp at e; omega
  have hmv : (Value.slice (some ⟨gn, 0, none⟩) (cur.length + 1) capn).ownBlock ≠ some W.heap.size := fun e => by
    rcases hT3.place with e1 | e1
    · exact hvl _ (.inr (.inr rfl)) (e1 ▸ e)
    · rw [e1] at e; injection e with e; simp at e; omega
  have hmo : ¬ own W.heap.size := fun h => by have := hlt _ h; omega
  have hK3 : Keep (fun k => ¬ own k) W w3 := (((Keep.alloc W _).trans (Keep.qt hq1)).trans (Keep.alloc w1 _)).trans (Keep.turned hT3 hI.n2)
  have hK4 : Keep (fun k => ¬ own k) W ((w3.setCell ⟨s + 1, 0, none⟩ (.slice (some ⟨gn, 0, none⟩) (cur.length + 1) capn)).setCell ⟨s + 2, 0, none⟩ (.int .u8 (woB m x))) :=
    (hK3.trans (Keep.setCell _ _ _ (hI.n1 (s + 1) (by omega) (by omega)))).trans (Keep.setCell _ _ _ (hI.n1 (s + 2) (by omega) (by omega)))
  have hb4 : ∀ k, k < W.heap.size → vl.ownBlock ≠ some k → k ≠ s + 1 → k ≠ s + 2 → ((w3.setCell ⟨s + 1, 0, none⟩ (.slice (some ⟨gn, 0, none⟩) (cur.length + 1) capn)).setCell ⟨s + 2, 0, none⟩ (.int .u8 (woB m x))).heap[k]? = W.heap[k]? := fun k hk hv e1 e2 => by
    rw [Below.heap_setCell _ _ _ k e2, Below.heap_setCell _ _ _ k e1, hT3.block k (by simp; omega) hv, Below.heap_alloc w1 _ k (by omega), hq1.heap, Below.heap_alloc W _ k hk]
  have hl4 : Blk (s + 1) #[.slice (some ⟨gn, 0, none⟩) (cur.length + 1) capn] 22 ((w3.setCell ⟨s + 1, 0, none⟩ (.slice (some ⟨gn, 0, none⟩) (cur.length + 1) capn)).setCell ⟨s + 2, 0, none⟩ (.int .u8 (woB m x))) :=
    (hS3.1.set 0 _).other (a := ⟨s + 2, 0, none⟩) (by simp) _
  have hf4 : Blk (s + 2) #[.int .u8 (woB m x)] 89 ((w3.setCell ⟨s + 1, 0, none⟩ (.slice (some ⟨gn, 0, none⟩) (cur.length + 1) capn)).setCell ⟨s + 2, 0, none⟩ (.int .u8 (woB m x))) :=
    (hS3.2.1.other (a := ⟨s + 1, 0, none⟩) (by simp) _).set 0 _
  have hx4' : Blk W.heap.size #[.int .i64 (x : Int)] 3 ((w3.setCell ⟨s + 1, 0, none⟩ (.slice (some ⟨gn, 0, none⟩) (cur.length + 1) capn)).setCell ⟨s + 2, 0, none⟩ (.int .u8 (woB m x))) :=
    (hS3.2.2.other (a := ⟨s + 1, 0, none⟩) (by simp; omega) _).other (a := ⟨s + 2, 0, none⟩) (by simp; omega) _
  have hr4 : Own (s + 5) ((w3.setCell ⟨s + 1, 0, none⟩ (.slice (some ⟨gn, 0, none⟩) (cur.length + 1) capn)).setCell ⟨s + 2, 0, none⟩ (.int .u8 (woB m x))) 3 1 (.slice (some ⟨gn, 0, none⟩) (cur.length + 1) capn) (cur.length + 1) (I64 (cur ++ [(x : Int)])) :=
    ho4.step fun k _ h1 _ => by rw [Below.heap_setCell _ _ _ k (by simp; omega), Below.heap_setCell _ _ _ k (by simp; omega)]
  have hz4 : W.heap.size + 1 ≤ ((w3.setCell ⟨s + 1, 0, none⟩ (.slice (some ⟨gn, 0, none⟩) (cur.length + 1) capn)).setCell ⟨s + 2, 0, none⟩ (.int .u8 (woB m x))).heap.size := by
    have := hT3.size; simp [World.setCell] at this ⊢; omega
  have hgl4 := (Value.slice (some ⟨gn, 0, none⟩) (cur.length + 1) capn)
  generalize ((w3.setCell ⟨s + 1, 0, none⟩ (.slice (some ⟨gn, 0, none⟩) (cur.length + 1) capn)).setCell ⟨s + 2, 0, none⟩ (.int .u8 (woB m x))) = W4 at hK4 hb4 hl4 hf4 hx4' hr4 hz4 ⊢
  clear hS3 ho3 ho4 hgn1 hgn2 hT3 hK3 hS1 hrow1 hs2 hgl4
  clear hz1 hq1
  clear w3
  have hlen1 : (cur ++ [(x : Int)]).length = cur.length + 1 := by simp
  have hI4 : ItS s n lr nb own (.slice (some ⟨gn, 0, none⟩) (cur.length + 1) capn) (cur ++ [(x : Int)]) (woB m x) W4 :=
    its_push hI (fun k hk e1 e2 => hb4 k (by omega) (hI.other k hk) e1 e2) hl4 hf4 (by rw [hlen1]; exact hr4) ((mask_wo hI.mask x hx4).congr fun y => by simp [or_comm]) hvo
  have hL4 : Lv s own own vl (.slice (some ⟨gn, 0, none⟩) (cur.length + 1) capn) W W4 := ⟨by omega, fun k hk h1 h2 h3 h4 => ⟨hb4 k hk h4 h2 h3, h1, hvn k hk h4⟩⟩
  have hcall := hG own pre rest W4 _ _ _ hI4 (sJ.step _ _ _ _ hJ hK4) (by rw [hlen1]; omega) hall
  have HC := Lib.hid hcall
  have c4 := hI4.bg.cell 0
  have hmf : ∀ (fn : Fn) (first cap : Array Value) (w : World), (Instr.makeFunc fn first cap).run Tryz.prog w = .ok (.func fn first cap) w := fun _ _ _ _ => rfl
  have HWB := woB_has m hm16 x hx4 x hx4
  have HIN := Lib.hid hin
  have HALL := Lib.hid hall
  have HLEN := Lib.hid hlen
  have HLEN1 := Lib.hid hlen1
  have HB4 := Lib.hid hb4
  have HVN := Lib.hid hvn
  clear hcall hG hin hall hlen hlen1 hb4 hvn hvo hlt hvl
  go_wp2_with (go_at_call 74; refine HC.out.mono ?_; rintro e w5 ⟨own5, vl5, b5, rfl, hI5, hL5, hend⟩)
  have hrow5 : Own (s + 5) w5 3 1 vl5 (cur.length + 1) (I64 (cur ++ [(x : Int)])) := by
    have := hI5.row
    rw [HLEN1.out] at this
    exact this
  obtain ⟨g5, cap5, rfl, hc5, hm5, hrow6⟩ := Own.pop hrow5
  have hmb5 : Blk W.heap.size #[.int .i64 (x : Int)] 3 w5 := hx4'.keep (hL5.keep _ (by omega) hmo (by omega) (by omega) hmv).1
  have hhas : hasB m x = true := by rw [hI.mask.2 x hx4]; simp [HIN.out, hx]
  refine leaves_cons (f := 73) (args := #[.pointer (some ⟨s + 1, 0, none⟩), .pointer (some ⟨s + 2, 0, none⟩), .pointer (some ⟨W.heap.size, 0, none⟩)]) (by simp) (by simp [go_sem]) ?_
  refine (pop_d hx4 (woB_lt hm16) .returning (k := cur.length) (cap := cap5) (g := g5) ⟨hI5.bl, hI5.bf, hmb5⟩ (by omega) hc5 hm5).mono ?_
  rintro e u' w7 ⟨rfl, rfl, w6, hq6, rfl⟩
  rw [orB_wo m hm16 x hx4 hhas]
  have hb7 : ∀ k, k ≠ s + 1 → k ≠ s + 2 → ((w6.setCell ⟨s + 1, 0, none⟩ (.slice (some ⟨g5, 0, none⟩) cur.length cap5)).setCell ⟨s + 2, 0, none⟩ (.int .u8 m)).heap[k]? = w5.heap[k]? := fun k e1 e2 => by
    rw [Below.heap_setCell _ _ _ k e2, Below.heap_setCell _ _ _ k e1, hq6.heap]
  have hK7 : Keep (fun k => ¬ own5 k) w5 ((w6.setCell ⟨s + 1, 0, none⟩ (.slice (some ⟨g5, 0, none⟩) cur.length cap5)).setCell ⟨s + 2, 0, none⟩ (.int .u8 m)) :=
    ((Keep.qt hq6).trans (Keep.setCell _ _ _ (hI5.n1 (s + 1) (by omega) (by omega)))).trans (Keep.setCell _ _ _ (hI5.n1 (s + 2) (by omega) (by omega)))
  refine ⟨_, results_tmp rfl _ _ _, own5, .slice (some ⟨g5, 0, none⟩) cur.length cap5, b5, rfl, ?_, ?_, ?_⟩
  · refine its_push hI5 (fun k _ e1 e2 => hb7 k e1 e2) (((hI5.bl.keep (w' := w6) (by rw [hq6.heap])).set 0 _).other (a := ⟨s + 2, 0, none⟩) (by simp) _) (((hI5.bf.keep (w' := w6) (by rw [hq6.heap])).other (a := ⟨s + 1, 0, none⟩) (by simp) _).set 0 _) ?_ hI.mask hI5.n2
    exact hrow6.step fun k _ h1 _ => hb7 k (by omega) (by omega)
  · have hL6 := hL4.trans hL5
    refine ⟨by have := hL6.size; have := hK7.size; omega, fun k hk h1 h2 h3 h4 => ?_⟩
    obtain ⟨e1, e2, e3⟩ := hL6.keep k hk h1 h2 h3 h4
    exact ⟨(hb7 k h2 h3).trans e1, e2, e3⟩
  · cases b5 with
    | true => exact sJ.step _ _ _ _ hend hK7
    | false =>
      obtain ⟨q, hq, hjx⟩ := hend
      exact ⟨q, hq, sJx.step _ _ _ _ hjx hK7⟩

end Go.Proofs.YtmlikgjfpmjdcaaGreatDoor

/- The contract of divisions' grow, from take's; conditions: as said. -/
namespace Go.Proofs.YtmlikgjfpmjdcaaGreatDoor
open Go.RowKit

set_option maxRecDepth 100000 in
set_option maxHeartbeats 1000000 in
theorem grow_step {s n lr nb r : Nat} (hn4 : n ≤ 4) {J Jx : (Nat → Prop) → List (List Int) → World → Prop} (hT : TakeOK s n lr nb J Jx r) : GrowOK s n lr nb J Jx (r + 1) := by
  intro own pre rest W cur m vl hI hJ hlen hall
  have hcl : cur.length < n := by omega
  have b1 : ((cur.length : Int) == (n : Int)) = false := by simp; omega
  obtain ⟨av, cpv, rfl, _, _⟩ := (Own.ints hI.row).shape
  have c1 := hI.bl.cell 0
  have c2 := hI.bn.cell 0
  have HT := Lib.hid hT; clear hT
  have HALL := Lib.hid hall; clear hall
  have HLEN := Lib.hid hlen; clear hlen
  go_enter Tryz.func74, Tryz.ntmps74
  go_wp2_with fail
  go_loopw [16] (fun i wr => ∃ k : Nat, k ≤ n ∧ i = .int .i64 k ∧ ∃ own' vl', ItS s n lr nb own' vl' cur m wr ∧ Lv s own own' (.slice av cur.length cpv) vl' W wr ∧ J own' (pre ++ extsTo n r cur k) wr) (fun i _ => n - (intOf i).toNat)
  case atStart => exact ⟨0, Nat.zero_le _, rfl, own, _, hI, Lv.refl _ _ _ _, by rw [extsTo_zero, List.append_nil]; exact hJ⟩
  case round =>
    obtain ⟨k, hk, rfl, own', vl', hI', hL', hJ'⟩ := hrel
    clear c1 c2
    have c1 := hI'.bf.cell 0
    have c2 := hI'.bt.cell 0
    by_cases hlt : k < n
    · have hmk := hI'.mask.2 k (by omega)
      have hm16 := hI'.mask.1
      have hk4 : k < 4 := by omega
      by_cases hin : (k : Int) ∈ cur
      · have hb : hasB m k = false := by rw [hmk]; simp [hin]
        clear hmk
        go_wp2_with (go_at_call 45; refine (has_c m k hm16 hk4 _).mono ?_; rintro e w' ⟨rfl, rfl⟩)
        go_roundw
        case rel => exact ⟨k + 1, by omega, by go_num, own', vl', hI', hL', by rw [extsTo_succ, if_pos hin, List.append_nil]; exact hJ'⟩
        case measure => simp [intOf]; omega
      · have hb : hasB m k = true := by rw [hmk]; simp [hin]; omega
        clear hmk
        obtain ⟨rest', hr⟩ := extsTo_all n r cur k hlt
        rw [if_neg hin] at hr
        have ht := HT.out own' (pre ++ extsTo n r cur k) (rest' ++ rest) wr cur m vl' k hI' hJ' hlt hin HLEN.out (by rw [HALL.out, hr]; simp)
        have HTK := Lib.hid ht
        have HIN := Lib.hid hin
        have HR := Lib.hid hr
        clear ht hr hin
        go_wp2_with (first | (go_at_call 45; refine (has_c m k hm16 hk4 _).mono ?_; rintro e w' ⟨rfl, rfl⟩) | (go_at_call 72; refine HTK.out.mono ?_; rintro e w3 ⟨own3, vl3, bb, rfl, hI3, hL3, hend⟩))
        · have hbb : (!bb) = true := by assumption
          obtain rfl : bb = false := by simpa using hbb
          obtain ⟨q, hq, hjx⟩ := hend
          go_ret
          refine ⟨own3, vl3, false, rfl, hI3, hL'.trans hL3, extsTo n r cur k ++ q, ?_, by rw [← List.append_assoc]; exact hjx⟩
          rw [HR.out, List.append_assoc]
          exact (List.prefix_append_right_inj _).2 (hq.trans (List.prefix_append _ _))
        · have hbb : (!bb) = false := by assumption
          obtain rfl : bb = true := by simpa using hbb
          go_roundw
          case rel => exact ⟨k + 1, by omega, by go_num, own3, vl3, hI3, hL'.trans hL3, by rw [extsTo_succ, if_neg HIN.out, ← List.append_assoc]; exact hend⟩
          case measure => simp [intOf]; omega
    · obtain rfl : k = n := by omega
      go_wp2
      go_ret
      exact ⟨own', vl', true, rfl, hI', hL', by rw [exts_succ]; exact hJ'⟩

theorem acts_done {P : Program} {ops : Array Oper} {Q : Exit → Act → World → Prop} {a : Act} {w : World} (h : Q .normal a w) : wpActs P ops Q .fin a w := h

set_option maxRecDepth 100000 in
set_option maxHeartbeats 1000000 in
theorem grow_leaf {s n lr nb : Nat} (hn4 : n ≤ 4) {J Jx : (Nat → Prop) → List (List Int) → World → Prop} (sJ : Side J) (hR : Rnd lr (divs n) J Jx) : GrowOK s n lr nb J Jx 0 := by
  intro own pre rest W cur m vl hI hJ hlen hall
  have hlt := sJ.lt own pre W hJ
  have b1 : ((cur.length : Int) == (n : Int)) = true := by simp; omega
  have hir := Own.ints hI.row
  obtain ⟨av, cpv, rfl, _, _⟩ := hir.shape
  have c1 := hI.bl.cell 0
  have c2 := hI.bn.cell 0
  have HALL := Lib.hid hall; clear hall
  have HLEN := Lib.hid hlen; clear hlen
  go_enter Tryz.func74, Tryz.ntmps74
  go_wp2_with fail
  clear c1 c2 b1
  refine wp_region_acts (.two 0 (.act 1 (.act 2 (.act 3 (.act 4 .fin)))) 1 (.two 0 (.act 2 (.act 3 (.act 4 .fin))) 2 (.act 0 (.act 3 (.act 4 .fin))))) (by kernel_rfl) rfl (by kernel_rfl) ?_
  intro w1 hq1
  have hI1 : ItS s n lr nb own (.slice av cur.length cpv) cur m w1 := its_push hI (fun k _ _ _ => by rw [hq1.heap]) (hI.bl.keep (by rw [hq1.heap])) (hI.bf.keep (by rw [hq1.heap])) (hI.row.qt hq1) hI.mask hI.n2
  have hir1 := hir.qt hq1
  have c0 := hI1.by_.cell 0
  have c1 := hI1.bl.cell 0
  have hcur : cur.length ≤ 4 := by have := HLEN.out; omega
  have hfin : ∀ (w2 : World) (v2 : Value), Ints (fun k => w1.heap.size ≤ k) w2 v2 cur → Below w1.heap.size w1 w2 → True ∧ True ∧ YieldAt Fence.wide 8 Tryz.prog lr #[v2] w2 fun e w3 => ∃ b, e = .returned (.bool b) ∧ GrowEnd s n lr nb J Jx own (.slice av cur.length cpv) cur m pre (exts n 0 cur) W (.returned (.bool b)) w3 := by
    intro w2 v2 hv2 hB2
    refine ⟨trivial, trivial, ?_⟩
    have hK2 : Keep (fun k => ¬ own k) W w2 := (Keep.qt hq1).trans (Keep.call hB2)
    have hz1 := hq1.size
    refine (hR own pre cur v2 w2 w1.heap.size (sJ.step _ _ _ _ hJ hK2) (fun k hk => by rw [hz1]; exact hlt k hk) hB2.size hv2 ?_).mono ?_
    · rw [HALL.out]; exact List.prefix_append _ _
    · rintro e w3 ⟨own3, h1, h2, h3, hend⟩
      have hb3 : ∀ k, k < W.heap.size → ¬ own k → w3.heap[k]? = W.heap[k]? := fun k hk hn => by
        rw [h2 k (by omega) hn, hB2.block k (by omega), hq1.heap]
      have hgl := hI.bg.lt
      have hit : ItS s n lr nb own3 (.slice av cur.length cpv) cur m w3 := by
        have hn0 : ¬ own3 nb := fun h => hI.n0 (h1 nb (by have := hI.bn.lt; omega) h)
        have hn1 : ∀ k, s ≤ k → k < s + 5 → ¬ own3 k := fun k a b h => hI.n1 k a b (h1 k (by omega) h)
        refine ⟨hI.ns, hI.bn.keep (hb3 _ hI.bn.lt hI.n0), hI.by_.keep (hb3 _ (by omega) (hI.n1 _ (by omega) (by omega))), hI.bl.keep (hb3 _ (by omega) (hI.n1 _ (by omega) (by omega))), hI.bf.keep (hb3 _ (by omega) (hI.n1 _ (by omega) (by omega))), hI.bt.keep (hb3 _ (by omega) (hI.n1 _ (by omega) (by omega))), hI.bg.keep (hb3 _ (by omega) (hI.n1 _ (by omega) (by omega))), ?_, hI.mask, hn0, hn1, fun k e h => ?_⟩
        · exact hI.row.step fun k e _ hk => hb3 k hk (hI.n2 k e)
        · exact hI.n2 k e (h1 k (by have := (hI.row.lt k e).2; omega) h)
      have hlv : Lv s own own3 (.slice av cur.length cpv) (.slice av cur.length cpv) W w3 := ⟨by have := hB2.size; omega, fun k hk a b c d => ⟨hb3 k hk a, fun h => a (h1 k (by omega) h), d⟩⟩
      rcases hend with ⟨rfl, hj⟩ | ⟨rfl, hj⟩
      · exact ⟨true, rfl, own3, _, true, rfl, hit, hlv, hj⟩
      · exact ⟨false, rfl, own3, _, false, rfl, hit, hlv, [cur], List.prefix_refl _, hj⟩
  refine ⟨?_, ?_⟩
  · refine opIn_step rfl rfl (fun K hK => ?_)
    go_simp
    refine hK _ _ ?_
    clear hK K
    refine opIn_step rfl rfl (fun K hK => ?_)
    go_simp
    refine hK _ _ ?_
    clear hK K
    refine opIn_step rfl rfl (fun K hK => ?_)
    go_simp
    refine CallsIn.mono (callsIn_wide.2 (clone_c hir1 (by omega))) ?_
    rintro e w2 ⟨v2, rfl, hv2, hB2⟩
    refine hK _ _ ?_
    clear hK K
    have c0 := (hI1.by_.call hB2).cell 0
    obtain ⟨I2, L2, fn, tmps, assign, body, hy, hRr⟩ := hfin w2 v2 hv2 hB2
    refine opIn_step rfl rfl (fun K hK => ?_)
    go_simp
    refine hRr.mono ?_
    rintro e w3 ⟨bb, rfl, hE⟩
    refine hK _ _ ?_
    clear hK K hy
    refine opIn_step rfl rfl (fun K hK => ?_)
    go_simp
    refine hK _ _ ?_
    clear hK K
    refine acts_done ?_
    go_wp2
    go_ret
    exact hE
  · refine opIn_step rfl rfl (fun K hK => ?_)
    go_simp
    refine hK _ _ ?_
    clear hK K
    refine ⟨?_, ?_⟩
    · refine opIn_step rfl rfl (fun K hK => ?_)
      go_simp
      refine hK _ _ ?_
      clear hK K
      refine opIn_step rfl rfl (fun K hK => ?_)
      go_simp
      refine CallsIn.mono (callsIn_wide.2 (clone_c hir1 (by omega))) ?_
      rintro e w2 ⟨v2, rfl, hv2, hB2⟩
      refine hK _ _ ?_
      clear hK K
      have c0 := (hI1.by_.call hB2).cell 0
      obtain ⟨I2, L2, fn, tmps, assign, body, hy, hRr⟩ := hfin w2 v2 hv2 hB2
      refine opIn_step rfl rfl (fun K hK => ?_)
      go_simp
      refine hRr.mono ?_
      rintro e w3 ⟨bb, rfl, hE⟩
      refine hK _ _ ?_
      clear hK K hy
      refine opIn_step rfl rfl (fun K hK => ?_)
      go_simp
      refine hK _ _ ?_
      clear hK K
      refine acts_done ?_
      go_wp2
      go_ret
      exact hE
    · refine opIn_step rfl rfl (fun K hK => ?_)
      go_simp
      refine CallsIn.mono (callsIn_wide.2 (clone_c hir1 (by omega))) ?_
      rintro e w2 ⟨v2, rfl, hv2, hB2⟩
      refine hK _ _ ?_
      clear hK K
      have c0 := (hI1.by_.call hB2).cell 0
      refine opIn_step rfl rfl (fun K hK => ?_)
      go_simp
      refine hK _ _ ?_
      clear hK K
      obtain ⟨I2, L2, fn, tmps, assign, body, hy, hRr⟩ := hfin w2 v2 hv2 hB2
      refine opIn_step rfl rfl (fun K hK => ?_)
      go_simp
      refine hRr.mono ?_
      rintro e w3 ⟨bb, rfl, hE⟩
      refine hK _ _ ?_
      clear hK K hy
      refine opIn_step rfl rfl (fun K hK => ?_)
      go_simp
      refine hK _ _ ?_
      clear hK K
      refine acts_done ?_
      go_wp2
      go_ret
      exact hE

theorem grow_all {s n lr nb : Nat} (hn4 : n ≤ 4) {J Jx : (Nat → Prop) → List (List Int) → World → Prop} (sJ : Side J) (sJx : Side Jx) (hR : Rnd lr (divs n) J Jx) : ∀ r, GrowOK s n lr nb J Jx r
  | 0 => grow_leaf hn4 sJ hR
  | r + 1 => grow_step hn4 (take_step hn4 sJ sJx (grow_all hn4 sJ sJx hR r))

end Go.Proofs.YtmlikgjfpmjdcaaGreatDoor

/- The contract of the iterator over divisions; conditions: n at most 4; what is asked of the rounds. -/
namespace Go.Proofs.YtmlikgjfpmjdcaaGreatDoor
open Go.RowKit
theorem blk_at {w : World} {k : Nat} (h : k = w.heap.size) (c : Array Value) (t : TypeId) : Blk k c t (w.alloc (.cells c t)) := by
  subst h
  exact Blk.new w c t

set_option maxRecDepth 100000 in
set_option maxHeartbeats 1000000 in
theorem divs_c {n nb lr : Nat} (hn : n ≤ 4) {J Jx : (Nat → Prop) → List (List Int) → World → Prop} (sJ : Side J) (sJx : Side Jx) (hR : Rnd lr (divs n) J Jx) {own : Nat → Prop} {W : World} (hb : Blk nb #[.int .i64 n] 3 W) (hnb : ¬ own nb) (hJ : J own [] W) :
    Calls Tryz.prog 71 #[.func (.yield lr) #[] #[], .pointer (some ⟨nb, 0, none⟩)] W fun e W' => (∃ v, e = .returned v) ∧ ((∃ own', J own' (divs n) W') ∨ ∃ own' q, q <+: divs n ∧ Jx own' q W') := by
  have hnl := hb.lt
  have hb1 := (hb.alloc (.cells #[.func (.yield lr) #[] #[]] 123)).alloc (.cells #[.slice none 0 0] 22)
  have c1 := hb1.cell 0
  have hmf : ∀ (fn : Fn) (first cap : Array Value) (w : World), (Instr.makeFunc fn first cap).run Tryz.prog w = .ok (.func fn first cap) w := fun _ _ _ _ => rfl
  have hlt := sJ.lt own [] W hJ
  have HLT := Lib.hid hlt
  clear hlt
  go_enter Tryz.func71, Tryz.ntmps71
  go_wp2_with (go_at_call 44; refine (everything_c n hn _).mono ?_; rintro e w' ⟨rfl, rfl⟩)
  have hI : ItS W.heap.size n lr nb own (.slice none 0 0) [] (allB n) (((((W.alloc (.cells #[.func (.yield lr) #[] #[]] 123)).alloc (.cells #[.slice none 0 0] 22)).alloc (.cells #[.int .u8 (allB n)] 89)).alloc
      (.cells #[.func (.func 72) #[] #[.pointer (some ⟨W.heap.size + 1, 0, none⟩), .pointer (some ⟨W.heap.size + 2, 0, none⟩), .pointer (some ⟨W.heap.size + 4, 0, none⟩)]] 91)).alloc
      (.cells #[.func (.func 74) #[] #[.pointer (some ⟨W.heap.size + 1, 0, none⟩), .pointer (some ⟨nb, 0, none⟩), .pointer (some ⟨W.heap.size, 0, none⟩), .pointer (some ⟨W.heap.size + 2, 0, none⟩), .pointer (some ⟨W.heap.size + 3, 0, none⟩)]] 27)) := by
    refine ⟨hnl, ((((hb.alloc _).alloc _).alloc _).alloc _).alloc _, ((((blk_at rfl _ _).alloc _).alloc _).alloc _).alloc _, (((blk_at (by simp) _ _).alloc _).alloc _).alloc _, ((blk_at (by simp) _ _).alloc _).alloc _, (blk_at (by simp) _ _).alloc _, blk_at (by simp) _ _, Own.nil, mask_all hn, hnb, fun k hk _ h => ?_, fun k e => ?_⟩
    · have := HLT.out k h; omega
    · cases e
  have hJ5 := sJ.step own [] W _ hJ (((((Keep.alloc W (.cells #[.func (.yield lr) #[] #[]] 123)).trans (Keep.alloc _ (.cells #[.slice none 0 0] 22))).trans (Keep.alloc _ (.cells #[.int .u8 (allB n)] 89))).trans (Keep.alloc _
      (.cells #[.func (.func 72) #[] #[.pointer (some ⟨W.heap.size + 1, 0, none⟩), .pointer (some ⟨W.heap.size + 2, 0, none⟩), .pointer (some ⟨W.heap.size + 4, 0, none⟩)]] 91))).trans (Keep.alloc _
      (.cells #[.func (.func 74) #[] #[.pointer (some ⟨W.heap.size + 1, 0, none⟩), .pointer (some ⟨nb, 0, none⟩), .pointer (some ⟨W.heap.size, 0, none⟩), .pointer (some ⟨W.heap.size + 2, 0, none⟩), .pointer (some ⟨W.heap.size + 3, 0, none⟩)]] 27)))
  have hcall := grow_all hn sJ sJx hR n own [] [] _ [] (allB n) _ hI hJ5 (by simp) (by simp [divs])
  have HC := Lib.hid hcall
  clear hcall hI hJ5 hb1 c1
  refine Calls.mono HC.out ?_
  rintro e w1 ⟨own', vl', b, rfl, hI', hL', hend⟩
  go_wp2
  go_end0
  refine ⟨⟨_, rfl⟩, ?_⟩
  cases b with
  | true => exact .inl ⟨own', by simpa [divs] using hend⟩
  | false =>
    obtain ⟨q, hq, hj⟩ := hend
    exact .inr ⟨own', q, hq, by simpa using hj⟩
end Go.Proofs.YtmlikgjfpmjdcaaGreatDoor

/- A range over divisions: what the loop's body owes and what lies behind the loop; conditions: as said. -/
namespace Go.Proofs.YtmlikgjfpmjdcaaGreatDoor
open Go.RowKit

/-- How the body of a round may be left. -/
def BodyEnd (I : (Nat → Prop) → List (List Int) → World → Prop) (Ix : Code → (Nat → Prop) → List (List Int) → World → Prop) (own : Nat → Prop) (h : Nat) (xs : List (List Int)) (W : World) (e : Exit) (_ : Act) (W' : World) : Prop :=
  ∃ own', (∀ k, k < h → own' k → own k) ∧ Keep own W W' ∧
    match e with
    | .normal => I own' xs W'
    | .ret => Ix .ret own' xs W'
    | .exit id => Ix (.exit id) own' xs W'
    | .goto t => Ix (.goto t) own' xs W'
    | .panic _ => False
    | .outgrown => False

set_option maxRecDepth 100000 in
theorem wp_rangeDivs {ps : Array Tmp} {assign body : Code} {Q : Exit → Act → World → Prop} {a : Act} {w : World} {g : Operand} {n nb : Nat} {own : Nat → Prop}
    (hg : a.eval g = .func (.func 71) #[] #[.pointer (some ⟨nb, 0, none⟩)]) (hps : ps.size = 1) (hn : n ≤ 4) (hb : Blk nb #[.int .i64 n] 3 w)
    (I : (Nat → Prop) → List (List Int) → World → Prop) (Ix : Code → (Nat → Prop) → List (List Int) → World → Prop) (sI : Side I) (sX : ∀ c, Side (Ix c)) (hnb : ¬ own nb) (h0 : I own [] w)
    (a₁ : Value → Act)
    (hassign : ∀ (l : Nat) (v : Value) (W : World) (K : Act → World → Prop), K (a₁ v) W →
      assign.wpIn (Fence.wide.inRound l) 8 Tryz.prog (Exit.then K (fun _ _ _ => False)) { tmps := (ps.zip #[v]).foldl (fun t (p, v) => t.setIfInBounds p v) a.tmps, defers := [] } W)
    (hbody : ∀ (l : Nat) (own : Nat → Prop) (pre : List (List Int)) (x : List Int) (v : Value) (W : World) (h : Nat), I own pre W → (∀ k, own k → k < h) → h ≤ W.heap.size → Ints (fun k => h ≤ k) W v x → pre ++ [x] <+: divs n →
      body.wpIn (Fence.wide.inRound l) 8 Tryz.prog (BodyEnd I Ix own h (pre ++ [x]) W) (a₁ v) W)
    (hdone : ∀ (D : Nat) (own : Nat → Prop) (W : World), I own (divs n) W → W.heap[D]? = some (.deferred (some [])) → w.heap.size ≤ D → ¬ own D → Q .normal { a with defers := { target := .collected D, args := #[] } :: a.defers } W)
    (hstop : ∀ (D : Nat) (c : Code) (own : Nat → Prop) (pre : List (List Int)) (W : World), pre <+: divs n → Ix c own pre W → W.heap[D]? = some (.deferred (some [])) → w.heap.size ≤ D → ¬ own D → c.wp Tryz.prog Q { a with defers := { target := .collected D, args := #[] } :: a.defers } W) :
    (Code.rangeFunc g ps assign body).wp Tryz.prog Q a w := by
  refine (wpIn_wide (n := 9)).1 (wpIn_rangeFunc ?_)
  intro fn hfn
  obtain ⟨rec, hrec⟩ : ∃ rec : LoopState → Option Code → Loop, rec = fun st pe => { state := st, pending := pe, fn, tmps := a.tmps, params := ps, assign, body, defers := w.heap.size } := ⟨_, rfl⟩
  obtain ⟨W1, hW1⟩ : ∃ W1, (w.alloc (.deferred (some []))).alloc (.loop (rec .ready none)) = W1 := ⟨_, rfl⟩
  have hB1 : Below w.heap.size w W1 := by rw [← hW1]; exact ((Below.refl _ w).alloc (Nat.le_refl _) _).alloc (by simp) _
  have hL1 : W1.heap[w.heap.size + 1]? = some (.loop (rec .ready none)) := by
    rw [← hW1]; have := World.alloc_heap_new (w.alloc (.deferred (some []))) (.loop (rec .ready none)); rwa [World.size_alloc] at this
  have hK1 : W1.heap[w.heap.size]? = some (.deferred (some [])) := by
    rw [← hW1]; exact (Below.heap_alloc _ _ _ (by simp)).trans (World.alloc_heap_new w _)
  have hI1 : I own [] W1 := sI.step own [] w W1 h0 (Keep.call hB1)
  have hlt0 := sI.lt own [] w h0
  refine ⟨w.heap.size + 1, [{ target := .collected w.heap.size, args := #[] }], W1, { target := .fn (.func 71) #[.pointer (some ⟨nb, 0, none⟩)], args := #[.func (.yield (w.heap.size + 1)) #[] #[]] }, W1, 71,
    #[.func (.yield (w.heap.size + 1)) #[] #[], .pointer (some ⟨nb, 0, none⟩)], W1, ?_, ?_, fun _ _ => trivial, ?_, fun _ => by omega, ?_⟩
  · rw [← hW1, hrec]; exact run_enterLoop_outer _ _ _ _ _
  · simp only [resolve, hg]
    simp [go_sem]
  · have eg : ∀ args w, (callFunc 71 args).run Tryz.prog w = .ok (.enter 71 args) w := fun args w => by go_simp
    simp [invoke, go_sem, eg]
  · obtain ⟨J, hJ⟩ : ∃ J : (Nat → Prop) → List (List Int) → World → Prop, J = fun own2 pre W => ∃ own, (∀ k, own2 k ↔ (own k ∨ k = w.heap.size + 1 ∨ k = w.heap.size)) ∧ ¬ own (w.heap.size + 1) ∧ ¬ own w.heap.size ∧ I own pre W ∧
        W.heap[w.heap.size + 1]? = some (.loop (rec .ready none)) ∧ W.heap[w.heap.size]? = some (.deferred (some [])) := ⟨_, rfl⟩
    obtain ⟨Jx, hJx⟩ : ∃ Jx : (Nat → Prop) → List (List Int) → World → Prop, Jx = fun own2 pre W => ∃ own c, (∀ k, own2 k ↔ (own k ∨ k = w.heap.size + 1 ∨ k = w.heap.size)) ∧ ¬ own (w.heap.size + 1) ∧ ¬ own w.heap.size ∧ Ix c own pre W ∧
        W.heap[w.heap.size + 1]? = some (.loop (rec .done (some c))) ∧ W.heap[w.heap.size]? = some (.deferred (some [])) := ⟨_, rfl⟩
    have sJ : Side J := by
      rw [hJ]
      refine ⟨fun o2 pre W ⟨o, he, _, _, hi, hl, hk⟩ k hk2 => ?_, fun o2 pre W W' ⟨o, he, n1, n2, hi, hl, hk⟩ hs => ⟨o, he, n1, n2, sI.step o pre W W' hi (hs.mono fun k _ hn h => hn ((he k).2 (.inl h))), ?_, ?_⟩⟩
      · rcases (he k).1 hk2 with h | rfl | rfl
        · exact sI.lt o pre W hi k h
        · exact (Array.getElem?_eq_some_iff.1 hl).1
        · exact (Array.getElem?_eq_some_iff.1 hk).1
      · exact (hs.block _ (Array.getElem?_eq_some_iff.1 hl).1 (fun h => h ((he _).2 (.inr (.inl rfl))))).trans hl
      · exact (hs.block _ (Array.getElem?_eq_some_iff.1 hk).1 (fun h => h ((he _).2 (.inr (.inr rfl))))).trans hk
    have sJx : Side Jx := by
      rw [hJx]
      refine ⟨fun o2 pre W ⟨o, c, he, _, _, hi, hl, hk⟩ k hk2 => ?_, fun o2 pre W W' ⟨o, c, he, n1, n2, hi, hl, hk⟩ hs => ⟨o, c, he, n1, n2, (sX c).step o pre W W' hi (hs.mono fun k _ hn h => hn ((he k).2 (.inl h))), ?_, ?_⟩⟩
      · rcases (he k).1 hk2 with h | rfl | rfl
        · exact (sX c).lt o pre W hi k h
        · exact (Array.getElem?_eq_some_iff.1 hl).1
        · exact (Array.getElem?_eq_some_iff.1 hk).1
      · exact (hs.block _ (Array.getElem?_eq_some_iff.1 hl).1 (fun h => h ((he _).2 (.inr (.inl rfl))))).trans hl
      · exact (hs.block _ (Array.getElem?_eq_some_iff.1 hk).1 (fun h => h ((he _).2 (.inr (.inr rfl))))).trans hk
    have hR : Rnd (w.heap.size + 1) (divs n) J Jx := by
      intro o2 pre x v W h hj hlt hh hv hp
      rw [hJ] at hj
      obtain ⟨o, he, n1, n2, hi, hl, hk⟩ := hj
      have hl1 : w.heap.size + 1 < h := hlt _ ((he _).2 (.inr (.inl rfl)))
      have hl0 : w.heap.size < h := by omega
      have hy := run_yield (P := Tryz.prog) (args := #[v]) hl (by rw [hrec]; exact hps.symm)
      rw [hrec] at hy
      refine ⟨fn, _, assign, body, hy, roundIn_of_wpIn hfn (hassign _ v W _ ⟨_, run_beginRound hl (by rw [hrec]), ?_⟩)⟩
      obtain ⟨W2, hW2⟩ : ∃ W2, W2 = W.putObj (w.heap.size + 1) (.loop { rec .ready none with state := .busy }) := ⟨_, rfl⟩
      rw [← hW2]
      have hs2 : W2.heap.size = W.heap.size := by rw [hW2]; simp
      have hk2 : ∀ (o : Nat → Prop), o (w.heap.size + 1) → Keep o W W2 := fun o ho => by rw [hW2]; exact Keep.putObj _ _ _ ho
      have hl2 : W2.heap[w.heap.size + 1]? = some (.loop { rec .ready none with state := .busy }) := by rw [hW2]; exact World.putObj_heap_same (by omega)
      have hi2 : I o pre W2 := sI.step o pre W W2 hi (hk2 _ n1)
      have hv2 : Ints (fun k => h ≤ k) W2 v x := hv.step (by omega) fun k hk hl => (hk2 (fun k => k = w.heap.size + 1) rfl).block k hl (by omega)
      refine wpIn_mono (hbody _ o pre x v W2 h hi2 (fun k hk => hlt k ((he k).2 (.inl hk))) (by omega) hv2 hp) ?_
      rintro e a3 W3 ⟨o', ho', hkp, hend⟩
      have hl3 : W3.heap[w.heap.size + 1]? = some (.loop { rec .ready none with state := .busy }) := (hkp.block _ (by omega) n1).trans hl2
      have hk3 : W3.heap[w.heap.size]? = some (.deferred (some [])) := (hkp.block _ (by omega) n2).trans (((hk2 (fun k => k = w.heap.size + 1) rfl).block _ (by omega) (by omega)).trans hk)
      have n1' : ¬ o' (w.heap.size + 1) := fun h => n1 (ho' _ (by omega) h)
      have n2' : ¬ o' w.heap.size := fun h => n2 (ho' _ (by omega) h)
      have fin : ∀ (jump : Option Code), ∃ W4, (Instr.endRound (w.heap.size + 1) jump).run Tryz.prog W3 = .ok (.bool jump.isNone) W4 ∧ W4.heap[w.heap.size + 1]? = some (.loop (rec (if jump.isNone then .ready else .done) jump)) ∧
          W4.heap[w.heap.size]? = some (.deferred (some [])) ∧ Keep (fun k => k = w.heap.size + 1) W3 W4 := fun jump => by
        have := run_endRound (P := Tryz.prog) jump hl3
        rw [hrec] at this ⊢
        exact ⟨_, this, World.putObj_heap_same (Array.getElem?_eq_some_iff.1 hl3).1, (World.putObj_heap_other (by omega)).trans hk3, Keep.putObj _ _ _ rfl⟩
      have hs3 := hkp.size
      have big : ∀ W4, Keep (fun k => k = w.heap.size + 1) W3 W4 → (∀ k, k < h → (o' k ∨ k = w.heap.size + 1 ∨ k = w.heap.size) → o2 k) ∧ (∀ k, k < h → ¬ o2 k → W4.heap[k]? = W.heap[k]?) ∧ W.heap.size ≤ W4.heap.size := fun W4 h4 => by
        have hs4 := h4.size
        refine ⟨fun k hk ho => (he k).2 (ho.imp (ho' k hk) id), fun k hk hn => ?_, by omega⟩
        have e1 : k ≠ w.heap.size + 1 := fun e => hn ((he k).2 (.inr (.inl e)))
        have e2 : ¬ o k := fun e => hn ((he k).2 (.inl e))
        exact (h4.block k (by omega) e1).trans ((hkp.block k (by omega) e2).trans ((hk2 (fun k => k = w.heap.size + 1) rfl).block k (by omega) e1))
      cases e with
      | normal =>
        obtain ⟨W4, hr, hl4, hk4, h4⟩ := fin none
        obtain ⟨g1, g2, g3⟩ := big W4 h4
        refine ⟨_, _, hr, fun k => o' k ∨ k = w.heap.size + 1 ∨ k = w.heap.size, g1, g2, g3, .inl ⟨rfl, ?_⟩⟩
        rw [hJ]
        exact ⟨o', fun k => Iff.rfl, n1', n2', sI.step _ _ _ _ hend (h4.mono fun k _ e => by subst e; exact n1'), hl4, hk4⟩
      | ret =>
        obtain ⟨W4, hr, hl4, hk4, h4⟩ := fin (some .ret)
        obtain ⟨g1, g2, g3⟩ := big W4 h4
        refine ⟨_, _, hr, fun k => o' k ∨ k = w.heap.size + 1 ∨ k = w.heap.size, g1, g2, g3, .inr ⟨rfl, ?_⟩⟩
        rw [hJx]
        exact ⟨o', .ret, fun k => Iff.rfl, n1', n2', (sX _).step _ _ _ _ hend (h4.mono fun k _ e => by subst e; exact n1'), hl4, hk4⟩
      | exit id =>
        obtain ⟨W4, hr, hl4, hk4, h4⟩ := fin (some (.exit id))
        obtain ⟨g1, g2, g3⟩ := big W4 h4
        refine ⟨_, _, hr, fun k => o' k ∨ k = w.heap.size + 1 ∨ k = w.heap.size, g1, g2, g3, .inr ⟨rfl, ?_⟩⟩
        rw [hJx]
        exact ⟨o', .exit id, fun k => Iff.rfl, n1', n2', (sX _).step _ _ _ _ hend (h4.mono fun k _ e => by subst e; exact n1'), hl4, hk4⟩
      | goto t =>
        obtain ⟨W4, hr, hl4, hk4, h4⟩ := fin (some (.goto t))
        obtain ⟨g1, g2, g3⟩ := big W4 h4
        refine ⟨_, _, hr, fun k => o' k ∨ k = w.heap.size + 1 ∨ k = w.heap.size, g1, g2, g3, .inr ⟨rfl, ?_⟩⟩
        rw [hJx]
        exact ⟨o', .goto t, fun k => Iff.rfl, n1', n2', (sX _).step _ _ _ _ hend (h4.mono fun k _ e => by subst e; exact n1'), hl4, hk4⟩
      | panic ch => exact hend.elim
      | outgrown => exact hend.elim
    have hj1 : J (fun k => own k ∨ k = w.heap.size + 1 ∨ k = w.heap.size) [] W1 := by
      rw [hJ]
      exact ⟨own, fun k => Iff.rfl, fun h => by have := hlt0 _ h; omega, fun h => by have := hlt0 _ h; omega, hI1, hL1, hK1⟩
    have hnbl := hb.lt
    have hcall := divs_c hn sJ sJx hR (hb.below hB1 hnbl) (fun h => by rcases h with h | h | h; exact hnb h; omega; omega) hj1
    refine CallsIn.mono (callsIn_wide.2 hcall) ?_
    rintro e W' ⟨⟨v, rfl⟩, (⟨o2, hj⟩ | ⟨o2, q, hq, hj⟩)⟩
    · rw [hJ] at hj
      obtain ⟨o, he, n1, n2, hi, hl, hk⟩ := hj
      have hend := run_endLoop (P := Tryz.prog) hl (by rw [hrec]; simp)
      refine ⟨none, _, by rw [hrec] at hend; exact hend, ?_⟩
      exact hdone w.heap.size o _ (sI.step _ _ _ _ hi (Keep.putObj _ _ _ n1)) ((World.putObj_heap_other (by omega)).trans hk) (Nat.le_refl _) n2
    · rw [hJx] at hj
      obtain ⟨o, c, he, n1, n2, hi, hl, hk⟩ := hj
      have hend := run_endLoop (P := Tryz.prog) hl (by rw [hrec]; simp)
      refine ⟨some c, _, by rw [hrec] at hend; exact hend, ?_⟩
      exact wpIn_wide.2 (hstop w.heap.size c o q _ hq ((sX c).step _ _ _ _ hi (Keep.putObj _ _ _ n1)) ((World.putObj_heap_other (by omega)).trans hk) (Nat.le_refl _) n2)

end Go.Proofs.YtmlikgjfpmjdcaaGreatDoor

