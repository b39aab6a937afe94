/- The first of all divisions with the least sum of what is asked (lots): least; conditions: valid commons, a contract of the sum. -/
import Derived.Test.YtmlikgjfpmjdcaaDoorOv1
import Derived.Test.YtmlikgjfpmjdcaaDoorB3
import Derived.OwnWalkIn
import Derived.TacticsInMore
import Derived.Laws.EntriesVeiled
namespace Go.Proofs.YtmlikgjfpmjdcaaDoor
open Go.RowKit
attribute [local go_sem] Oper.semAt_some

/-- The keeper after one more division. -/
def lsStep (f : List Int → Int) (ks : Option (List Int × List Int)) (x : List Int) : Option (List Int × List Int) := match ks with
  | none => some (x, [f x])
  | some (b, k) => if cmpL [f x] k < 0 then some (x, [f x]) else some (b, k)
def lsK (f : List Int → Int) (pre : List (List Int)) : Option (List Int × List Int) := pre.foldl (lsStep f) none
theorem lsK_snoc (f : List Int → Int) (pre : List (List Int)) (x : List Int) : lsK f (pre ++ [x]) = lsStep f (lsK f pre) x := by simp [lsK]
theorem lsF_form (f : List Int → Int) : ∀ (pre : List (List Int)) (b0 : List Int), ∃ b, (b = b0 ∨ b ∈ pre) ∧ pre.foldl (lsStep f) (some (b0, [f b0])) = some (b, [f b])
  | [], b0 => ⟨b0, .inl rfl, rfl⟩
  | x :: t, b0 => by
    rw [List.foldl_cons]
    by_cases hc : cmpL [f x] [f b0] < 0
    · have e : lsStep f (some (b0, [f b0])) x = some (x, [f x]) := by simp only [lsStep, if_pos hc]
      rw [e]
      obtain ⟨b, h1, h2⟩ := lsF_form f t x
      exact ⟨b, .inr (h1.elim (fun h => by rw [h]; simp) (fun h => List.mem_cons_of_mem _ h)), h2⟩
    · have e : lsStep f (some (b0, [f b0])) x = some (b0, [f b0]) := by simp only [lsStep, if_neg hc]
      rw [e]
      obtain ⟨b, h1, h2⟩ := lsF_form f t b0
      exact ⟨b, h1.imp id (fun h => List.mem_cons_of_mem _ h), h2⟩
theorem lsK_form (f : List Int → Int) : ∀ pre : List (List Int), (pre = [] ∧ lsK f pre = none) ∨ ∃ b, b ∈ pre ∧ lsK f pre = some (b, [f b])
  | [] => .inl ⟨rfl, rfl⟩
  | x :: t => by
    obtain ⟨b, h1, h2⟩ := lsF_form f t x
    exact .inr ⟨b, h1.elim (fun h => by rw [h]; simp) (fun h => List.mem_cons_of_mem _ h), h2⟩

/-- What the keeper's block holds. -/
def KO (kb : Nat) (own : Nat → Prop) (vb vk : Value) (W : World) : Option (List Int × List Int) → Prop
  | none => Blk kb #[.slice none 0 0, .slice none 0 0, .bool false] 73 W
  | some (b, k) => Blk kb #[vb, vk, .bool true] 73 W ∧ Ints (fun q => own q ∧ kb < q) W vb b ∧ Ints (fun q => own q ∧ kb < q) W vk k
theorem KO.step {kb : Nat} {own own' : Nat → Prop} {vb vk : Value} {W W' : World} : ∀ {ks : Option (List Int × List Int)}, KO kb own vb vk W ks → W'.heap[kb]? = W.heap[kb]? → W.heap.size ≤ W'.heap.size → (∀ q, own q → kb < q → q < W.heap.size → W'.heap[q]? = W.heap[q]?) → (∀ q, own q → own' q) → KO kb own' vb vk W' ks
  | none, h, h1, _, _, _ => Blk.keep h h1
  | some (_, _), h, h1, h2, h3, h4 => ⟨Blk.keep h.1 h1, (h.2.1.step h2 fun q hq hl => h3 q hq.1 hq.2 hl).wide fun q hq _ => ⟨h4 q hq.1, hq.2⟩, (h.2.2.step h2 fun q hq hl => h3 q hq.1 hq.2 hl).wide fun q hq _ => ⟨h4 q hq.1, hq.2⟩⟩

/-- What stands between the rounds. -/
structure LI (w : World) (N nb b0 kb : Nat) (ifc : Value) (f : List Int → Int) (own : Nat → Prop) (pre : List (List Int)) (W : World) : Prop where
  bel : Below w.heap.size w W
  low : ∀ k, k < N → k ≠ nb → own k
  lt : ∀ k, own k → k < W.heap.size
  wN : w.heap.size ≤ nb
  nN : nb < N
  b0N : b0 < nb
  kN : kb < nb
  kw : w.heap.size ≤ kb
  bk : b0 ≠ kb
  bb : Blk b0 #[ifc] 96 W
  st : ∃ vb vk, KO kb own vb vk W (lsK f pre)
theorem LI.side (w : World) (N nb b0 kb : Nat) (ifc : Value) (f : List Int → Int) : Side (LI w N nb b0 kb ifc f) := by
  refine ⟨fun own pre W h => h.lt, fun own pre W W' h hk => ?_⟩
  have ho : ∀ k, own k → W'.heap[k]? = W.heap[k]? := fun k hko => hk.block k (h.lt k hko) (fun hn => hn hko)
  obtain ⟨vb, vk, hst⟩ := h.st
  have h1 := h.wN; have h2 := h.nN; have h3 := h.b0N; have h4 := h.kN; have h5 := h.kw
  exact ⟨h.bel.trans ⟨hk.os, hk.tape, hk.output, hk.size, fun k hkw => ho k (h.low k (by omega) (by omega))⟩, h.low, fun k hko => Nat.lt_of_lt_of_le (h.lt k hko) hk.size, h1, h2, h3, h4, h5, h.bk,
    h.bb.keep (ho _ (h.low _ (by omega) (by omega))), vb, vk, hst.step (ho _ (h.low _ (by omega) (by omega))) hk.size (fun q hq _ _ => ho q hq) (fun q hq => hq)⟩

theorem li_keep {w : World} {N nb b0 kb h : Nat} {ifc : Value} {f : List Int → Int} {own : Nat → Prop} {pre : List (List Int)} {x : List Int} {W W5 : World} (hL : LI w N nb b0 kb ifc f own pre W) (hB : Below W.heap.size W W5)
    (hs : lsStep f (lsK f pre) x = lsK f pre) : Keep own W W5 ∧ LI w N nb b0 kb ifc f (fun k => own k ∨ (h ≤ k ∧ k < W5.heap.size)) (pre ++ [x]) W5 := by
  obtain ⟨vb, vk, hst⟩ := hL.st
  have h1 := hL.wN; have h2 := hL.nN; have h3 := hL.b0N; have h4 := hL.kN; have h5 := hL.kw
  have hl : ∀ k, own k → W5.heap[k]? = W.heap[k]? := fun k hk => hB.block k (hL.lt k hk)
  have hz := hB.size
  refine ⟨Keep.call hB, hL.bel.trans (hB.mono hL.bel.size), fun k a b => .inl (hL.low k a b), fun k hk => ?_, h1, h2, h3, h4, h5, hL.bk, hL.bb.call hB, vb, vk, ?_⟩
  · rcases hk with hk | hk
    · have := hL.lt k hk; omega
    · exact hk.2
  · rw [lsK_snoc, hs]
    exact hst.step (hl _ (hL.low _ (by omega) (by omega))) hz (fun q hq _ _ => hl q hq) (fun q hq => .inl hq)
theorem li_take {w : World} {N nb b0 kb h : Nat} {ifc : Value} {f : List Int → Int} {own : Nat → Prop} {pre : List (List Int)} {x : List Int} {W W5 : World} {v vkey a0 a1 a2 : Value} (hL : LI w N nb b0 kb ifc f own pre W) (hB : Below W.heap.size W W5)
    (hoh : ∀ k, own k → k < h) (hh : h ≤ W.heap.size) (hv : Ints (fun k => h ≤ k) W v x) (hkey : Ints (fun k => W.heap.size ≤ k) W5 vkey [f x]) (hK : Blk kb #[a0, a1, a2] 73 W5)
    (hs : lsStep f (lsK f pre) x = some (x, [f x])) : Keep own W (((W5.setCell ⟨kb, 0, none⟩ v).setCell ⟨kb, 1, none⟩ vkey).setCell ⟨kb, 2, none⟩ (.bool true)) ∧
      LI w N nb b0 kb ifc f (fun k => own k ∨ (h ≤ k ∧ k < (((W5.setCell ⟨kb, 0, none⟩ v).setCell ⟨kb, 1, none⟩ vkey).setCell ⟨kb, 2, none⟩ (.bool true)).heap.size)) (pre ++ [x]) (((W5.setCell ⟨kb, 0, none⟩ v).setCell ⟨kb, 1, none⟩ vkey).setCell ⟨kb, 2, none⟩ (.bool true)) := by
  have h1 := hL.wN; have h2 := hL.nN; have h3 := hL.b0N; have h4 := hL.kN; have h5 := hL.kw
  have okb := hL.low kb (by omega) (by omega)
  have hkh := hoh _ okb
  have hz := hB.size
  have hoth : ∀ i, i ≠ kb → (((W5.setCell ⟨kb, 0, none⟩ v).setCell ⟨kb, 1, none⟩ vkey).setCell ⟨kb, 2, none⟩ (.bool true)).heap[i]? = W5.heap[i]? := fun i hi =>
    ((Below.heap_setCell _ _ _ _ (show i ≠ kb from hi)).trans (Below.heap_setCell _ _ _ _ (show i ≠ kb from hi))).trans (Below.heap_setCell _ _ _ _ (show i ≠ kb from hi))
  have hsz : (((W5.setCell ⟨kb, 0, none⟩ v).setCell ⟨kb, 1, none⟩ vkey).setCell ⟨kb, 2, none⟩ (.bool true)).heap.size = W5.heap.size := by simp [World.setCell]
  have hl : ∀ k, own k → k ≠ kb → (((W5.setCell ⟨kb, 0, none⟩ v).setCell ⟨kb, 1, none⟩ vkey).setCell ⟨kb, 2, none⟩ (.bool true)).heap[k]? = W.heap[k]? := fun k hk hne => (hoth k hne).trans (hB.block k (hL.lt k hk))
  have hkp : Keep own W (((W5.setCell ⟨kb, 0, none⟩ v).setCell ⟨kb, 1, none⟩ vkey).setCell ⟨kb, 2, none⟩ (.bool true)) := (((Keep.call hB).trans (Keep.setCell _ ⟨kb, 0, none⟩ _ okb)).trans (Keep.setCell _ ⟨kb, 1, none⟩ _ okb)).trans (Keep.setCell _ ⟨kb, 2, none⟩ _ okb)
  have hbl : Below w.heap.size w (((W5.setCell ⟨kb, 0, none⟩ v).setCell ⟨kb, 1, none⟩ vkey).setCell ⟨kb, 2, none⟩ (.bool true)) := (((hL.bel.trans (hB.mono hL.bel.size)).setCell (show w.heap.size ≤ kb by omega) _).setCell (show w.heap.size ≤ kb by omega) _).setCell (show w.heap.size ≤ kb by omega) _
  have k3 := ((hK.set 0 v).set 1 vkey).set 2 (.bool true)
  refine ⟨hkp, hbl, fun k a b => .inl (hL.low k a b), fun k hk => ?_, h1, h2, h3, h4, h5, hL.bk, hL.bb.keep (hl _ (hL.low _ (by omega) (by omega)) hL.bk), v, vkey, ?_⟩
  · rcases hk with hk | hk
    · have := hL.lt k hk; omega
    · exact hk.2
  · rw [lsK_snoc, hs]
    refine ⟨by simpa using k3, ?_, ?_⟩
    · have hvx := hv.wide (A' := fun k => h ≤ k ∧ k < W.heap.size) (fun k hk hl => ⟨hk, hl⟩)
      exact (hvx.step (by omega) fun k hk _ => (hoth k (by omega)).trans (hB.block k hk.2)).wide fun k hk _ => ⟨.inr ⟨hk.1, by omega⟩, by omega⟩
    · have hkx := hkey.wide (A' := fun k => W.heap.size ≤ k ∧ k < W5.heap.size) (fun k hk hl => ⟨hk, hl⟩)
      exact (hkx.step (by omega) fun k hk _ => hoth k (by omega)).wide fun k hk _ => ⟨.inr ⟨by omega, by omega⟩, by omega⟩

theorem divs_pos : ∀ n, n ≤ 4 → 0 < (divs n).length := by
  have h : ∀ n < 5, 0 < (divs n).length := by decide +kernel
  exact fun n hn => h n (by omega)

set_option maxRecDepth 100000 in
set_option maxHeartbeats 2000000 in
theorem least_c {A : Nat → Prop} {w : World} {wb : Nat} {vm vv : Value} {c : Com} (hw : Blk wb #[vm, vv] 60 w) (h : Cm A w vm vv c) (hok : c.Ok 4) (t : TypeId) (f : List Int → Int)
    (hs : ∀ (w' : World) (vd : Value) (d : List Int) (A' : Nat → Prop), Below w.heap.size w w' → Ints A' w' vd d → d ∈ divs c.villages.length → Calls Tryd.prog 45 #[.iface t (.agg #[.pointer (some ⟨wb, 0, none⟩)]), vd] w' fun e w'' => e = .returned (.int .i64 (f d)) ∧ Below w'.heap.size w' w'') :
    Calls Tryd.prog 36 #[.pointer (some ⟨wb, 0, none⟩), .iface t (.agg #[.pointer (some ⟨wb, 0, none⟩)])] w fun e w' => ∃ v b, lsK f (divs c.villages.length) = some (b, [f b]) ∧ e = .returned (.tuple #[v, .int .i64 (f b)]) ∧ Ints (fun k => w.heap.size ≤ k) w' v b ∧ Below w.heap.size w w' := by
  obtain ⟨am, cpm, rfl, _, _⟩ := h.1.shape
  obtain ⟨av, cpv, rfl, _, _⟩ := h.2.shape
  have hn4 : c.villages.length ≤ 4 := by have := hok.n2; have := hok.vl; omega
  have hn1 : 1 ≤ c.villages.length := by have := hok.n1; have := hok.vl; omega
  have hmf : ∀ (fn : Fn) (first cap : Array Value) (w : World), (Instr.makeFunc fn first cap).run Tryd.prog w = .ok (.func fn first cap) w := fun _ _ _ _ => rfl
  obtain ⟨ifc, hifc⟩ : ∃ ifc, ifc = Value.iface t (.agg #[.pointer (some ⟨wb, 0, none⟩)]) := ⟨_, rfl⟩
  have hB0 : Below w.heap.size w ((w.alloc (.cells #[.iface t (.agg #[.pointer (some ⟨wb, 0, none⟩)])] 96)).alloc (.cells #[.slice none 0 0, .slice none 0 0, .bool false] 73)) := ((Below.refl _ w).alloc (Nat.le_refl _) _).alloc (by simp) _
  have hw0 := hw.call hB0
  have c1 := hw0.cell 1
  have HS := Lib.hid hs
  clear hs
  refine (callsIn_wide (n := 9)).1 (callsIn_of_wp_marks Tryd.func36 rfl trivial (wpIn_wide.2 ?_))
  simp only [Tryd.ntmps36, List.size_toArray, List.length_cons, List.length_nil, Nat.reduceAdd, Nat.reduceSub, Array.replicate_succ, Array.replicate_zero, List.push_toArray, List.append_toArray, List.nil_append, List.cons_append]
  go_wp2_with (go_at_call 44; refine (divisions_c c.villages.length _).mono ?_; rintro e w4 ⟨rfl, hw4⟩; obtain rfl := hw4)
  have hz0 : (((w.alloc (.cells #[.iface t (.agg #[.pointer (some ⟨wb, 0, none⟩)])] 96)).alloc (.cells #[.slice none 0 0, .slice none 0 0, .bool false] 73)).alloc (.cells #[.int .i64 (c.villages.length : Int)] 3)).heap.size = w.heap.size + 3 := by simp
  have hbb : Blk w.heap.size #[.iface t (.agg #[.pointer (some ⟨wb, 0, none⟩)])] 96 (((w.alloc (.cells #[.iface t (.agg #[.pointer (some ⟨wb, 0, none⟩)])] 96)).alloc (.cells #[.slice none 0 0, .slice none 0 0, .bool false] 73)).alloc (.cells #[.int .i64 (c.villages.length : Int)] 3)) := ((blk_at rfl _ _).alloc _).alloc _
  have hkb : Blk (w.heap.size + 1) #[.slice none 0 0, .slice none 0 0, .bool false] 73 (((w.alloc (.cells #[.iface t (.agg #[.pointer (some ⟨wb, 0, none⟩)])] 96)).alloc (.cells #[.slice none 0 0, .slice none 0 0, .bool false] 73)).alloc (.cells #[.int .i64 (c.villages.length : Int)] 3)) := (blk_at (by simp) _ _).alloc _
  have hnb : Blk (w.heap.size + 2) #[.int .i64 (c.villages.length : Int)] 3 (((w.alloc (.cells #[.iface t (.agg #[.pointer (some ⟨wb, 0, none⟩)])] 96)).alloc (.cells #[.slice none 0 0, .slice none 0 0, .bool false] 73)).alloc (.cells #[.int .i64 (c.villages.length : Int)] 3)) := blk_at (by simp) _ _
  have hB1 := hB0.alloc (by simp; omega) (.cells #[.int .i64 (c.villages.length : Int)] 3)
  obtain ⟨b0, hb0⟩ : ∃ b, b = w.heap.size := ⟨_, rfl⟩
  rw [← hb0] at hz0 hbb hkb hnb ⊢
  rw [← hifc] at hz0 hbb hkb hnb hB1 ⊢
  generalize (((w.alloc (.cells #[ifc] 96)).alloc (.cells #[.slice none 0 0, .slice none 0 0, .bool false] 73)).alloc (.cells #[.int .i64 (c.villages.length : Int)] 3)) = w0 at hz0 hbb hkb hnb hB1 ⊢
  have HB0 := Lib.hid hb0
  have HZ0 := Lib.hid hz0
  clear hz0 hB0 hw0 c1 hw
  have hL0 : LI w (b0 + 3) (b0 + 2) b0 (b0 + 1) ifc f (fun k => k < b0 + 3 ∧ k ≠ b0 + 2) [] w0 :=
    ⟨hB1, fun k h1 h2 => ⟨h1, h2⟩, fun k hk => by have := HZ0.out; omega, by omega, by omega, by omega, by omega, by omega, by omega, hbb, .slice none 0 0, .slice none 0 0, hkb⟩
  have HIFC := Lib.hid hifc
  clear hb0 hbb hkb hifc
  refine wp_rangeDivs (n := c.villages.length) (nb := b0 + 2) (a₁ := ?a1) rfl rfl hn4 hnb (LI w (b0 + 3) (b0 + 2) b0 (b0 + 1) ifc f) (fun _ _ _ _ => False) (LI.side _ _ _ _ _ _ _) (fun _ => ⟨fun _ _ _ h => h.elim, fun _ _ _ _ h _ => h⟩) (fun h => h.2 rfl) hL0 ?assign ?body ?done ?stop
  case assign =>
    intro l v W K hK
    gi_wp2
    exact hK
  case body =>
    intro l own pre x v W h1 hL hoh hh hv hpre
    refine wpIn_block ?_
    obtain ⟨ax, cx, rfl, _, _⟩ := hv.shape
    have hxm : x ∈ divs c.villages.length := hpre.subset (by simp)
    have hsum := HS.out W (.slice ax x.length cx) x _ hL.bel hv hxm
    rw [← HIFC.out] at hsum
    have HSUM := Lib.hid hsum
    have hb := hL.bb
    have c0 := hb.cell 0
    have hst := hL.st
    have hform := lsK_form f pre
    have hsz := hL.bel.size
    clear hsum hxm hpre
    gi_wp2_with fail
    refine ⟨trivial, CallsIn.mono (CallsIn.inRound _ (callsIn_wide.2 HSUM.out)) ?_⟩
    rintro e W4 ⟨rfl, hB4⟩
    clear HSUM c0
    have hB5 := hB4.alloc hB4.size (.cells #[.int .i64 (f x)] 3)
    have hkey : Ints (fun k => W.heap.size ≤ k) (W4.alloc (.cells #[.int .i64 (f x)] 3)) (.slice (some ⟨W4.heap.size, 0, none⟩) 1 1) [f x] := (Own.ints (own_lit W4 3 1 #[.int .i64 (f x)] 1 rfl (by omega))).wide fun k hk _ => Nat.le_trans hB4.size hk
    gi_wp2_with fail
    obtain ⟨vb, vk, hst⟩ := hst
    cases hks : lsK f pre with
    | none =>
      rw [hks] at hst
      have hK5 := Blk.call (show Blk (b0 + 1) #[.slice none 0 0, .slice none 0 0, .bool false] 73 W from hst) hB5
      have ho := offer_take (vx := .slice ax x.length cx) rfl rfl hK5 hkey (ints_nil (fun _ => True) _) (.inl rfl)
      obtain ⟨p1, p2⟩ := li_take (h := h1) hL hB5 hoh hh hv hkey hK5 (by rw [hks]; rfl)
      refine ⟨trivial, CallsIn.mono (CallsIn.inRound _ (callsIn_wide.2 ho)) ?_⟩
      rintro e W6 ⟨rfl, rfl⟩
      gi_wp2_with fail
      exact ⟨_, fun k hk ho => ho.elim id (fun h => by omega), p1, p2⟩
    | some bk =>
      obtain ⟨b, k⟩ := bk
      rw [hks] at hst
      obtain ⟨q1, q2, q3⟩ := hst
      have hK5 := Blk.call q1 hB5
      have hk5 := q3.call hB5
      by_cases hc : cmpL [f x] k < 0
      · have ho := offer_take (vx := .slice ax x.length cx) rfl rfl hK5 hkey hk5 (.inr hc)
        obtain ⟨p1, p2⟩ := li_take (h := h1) hL hB5 hoh hh hv hkey hK5 (by rw [hks]; simp only [lsStep, if_pos hc])
        refine ⟨trivial, CallsIn.mono (CallsIn.inRound _ (callsIn_wide.2 ho)) ?_⟩
        rintro e W6 ⟨rfl, rfl⟩
        gi_wp2_with fail
        exact ⟨_, fun k hk ho => ho.elim id (fun h => by omega), p1, p2⟩
      · have ho := offer_keep (vx := .slice ax x.length cx) hK5 hkey hk5 hc
        obtain ⟨p1, p2⟩ := li_keep (h := h1) hL hB5 (x := x) (by rw [hks]; simp only [lsStep, if_neg hc])
        refine ⟨trivial, CallsIn.mono (CallsIn.inRound _ (callsIn_wide.2 ho)) ?_⟩
        rintro e W6 ⟨rfl, rfl⟩
        gi_wp2_with fail
        exact ⟨_, fun k hk ho => ho.elim id (fun h => by omega), p1, p2⟩
  case done =>
    intro D own W hL hD hDl hDo
    rcases lsK_form f (divs c.villages.length) with ⟨h1, _⟩ | ⟨b, hbm, hls⟩
    · have h2 := divs_pos c.villages.length hn4
      rw [h1] at h2; simp at h2
    · obtain ⟨vb, vk, hst⟩ := hL.st
      rw [hls] at hst
      obtain ⟨q1, q2, q3⟩ := hst
      have hbl := hL.bel
      have hlw := hL.wN
      have hkw := hL.kw
      have HLS := Lib.hid hls
      have hDlt := (Array.getElem?_eq_some_iff.1 hD).1
      obtain ⟨avb, cvb, rfl, _, _⟩ := q2.shape
      obtain ⟨avk, cvk, rfl, _, _⟩ := q3.shape
      obtain ⟨kb2, ko2, rfl, -, -, hkc⟩ := q3.addr (by simp)
      have d0 := hkc 0 (by simp)
      simp only [List.getElem_cons_zero, Nat.add_zero] at d0
      have c0 := q1.cell 0
      have c1 := q1.cell 1
      clear hls hnb hL0 h
      go_wp2_with fail
      go_quiet (fail)
      rename_i nq
      have hD2 : (W.drewN nq).heap[D]? = some (.deferred (some [])) := hD
      have hB2 := hbl.trans ((show Qt W (W.drewN nq) from ⟨nq, rfl⟩).below _)
      have q4 := q2.drewN nq
      generalize W.drewN nq = W9 at *
      go_wp2
      refine ⟨by simp, .inl ⟨_, _, rfl, run_takeDeferred hD2, ?_⟩⟩
      refine ⟨_, results_tmp2 rfl _ _ _, _, _, HLS.out, rfl, ?_, ?_⟩
      · exact (q4.step (by simp) fun k hk hl => World.putObj_heap_other (r := D) (fun e => hDo (by rw [← e]; exact hk.1))).wide fun k hk _ => by omega
      · exact hB2.trans ⟨rfl, rfl, rfl, by simp, fun k hk => World.putObj_heap_other (by have := HZ0.out; have := HB0.out; omega)⟩
  case stop =>
    intro D c own pre W _ h
    exact h.elim

end Go.Proofs.YtmlikgjfpmjdcaaDoor
