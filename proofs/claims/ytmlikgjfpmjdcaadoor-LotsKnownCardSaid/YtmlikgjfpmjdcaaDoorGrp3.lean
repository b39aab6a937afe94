/- Whether a group can hand its mountains round (lots, better); conditions: valid commons, a division, a group of at most four. -/
import Derived.Test.YtmlikgjfpmjdcaaDoorC3
import Derived.Test.YtmlikgjfpmjdcaaDoorB3
import Derived.OwnWalkIn
import Derived.TacticsInMore
import Derived.Laws.EntriesVeiled
import Derived.WalkMore
import Derived.LoopIn
namespace Go.Proofs.YtmlikgjfpmjdcaaDoor
open Go.RowKit
attribute [local go_sem] Oper.semAt_some

theorem fineB_stop {vs : List Vil} {d S p : List Int} {j m : Nat} (hm : j ≤ m) (h : fineB vs d S p j = false) : fineB vs d S p m = false := by
  cases hf : fineB vs d S p m with
  | false => rfl
  | true =>
    rw [← h]
    symm
    simp only [fineB, List.all_eq_true, List.mem_range] at hf ⊢
    exact fun x hx => hf x (by omega)
/-- What a round of a round reads. -/
def BrS (b0 : Nat) (vw vd vg : Value) (b1 o1 x1 b2 o2 x2 b3 o3 : Nat) (x3 : Int) (b4 o4 : Nat) (x4 : Int) (w : World) : Prop :=
  Blk b0 #[vw] 55 w ∧ Blk (b0 + 1) #[vd] 22 w ∧ Blk (b0 + 1 + 1) #[vg] 22 w ∧ w.cell? ⟨b1, o1, none⟩ = some (.int .i64 x1) ∧ w.cell? ⟨b2, o2, none⟩ = some (.int .i64 x2) ∧ w.cell? ⟨b3, o3, none⟩ = some (.int .i64 x3) ∧ w.cell? ⟨b4, o4, none⟩ = some (.int .i64 x4)
/-- What stands between the rounds. -/
structure BI (w : World) (N nb b0 : Nat) (vw vd vg : Value) (r : Bool) (T : List (List Int) → Prop) (own : Nat → Prop) (pre : List (List Int)) (W : World) : Prop where
  bel : Below w.heap.size w W
  low : ∀ k, k < N → k ≠ nb → own k
  lt : ∀ k, own k → k < W.heap.size
  wN : w.heap.size ≤ b0
  bN : b0 + 3 < nb
  nN : nb < N
  k0 : Blk b0 #[vw] 55 W
  k1 : Blk (b0 + 1) #[vd] 22 W
  k2 : Blk (b0 + 1 + 1) #[vg] 22 W
  k3 : Blk (b0 + 1 + 1 + 1) #[.bool r] 4 W
  st : T pre
theorem BI.side (w : World) (N nb b0 : Nat) (vw vd vg : Value) (r : Bool) (T : List (List Int) → Prop) : Side (BI w N nb b0 vw vd vg r T) := by
  refine ⟨fun own pre W h => h.lt, fun own pre W W' h hk => ?_⟩
  have ho : ∀ k, own k → W'.heap[k]? = W.heap[k]? := fun k hko => hk.block k (h.lt k hko) (fun hn => hn hko)
  have h1 := h.wN; have h2 := h.bN; have h3 := h.nN
  exact ⟨h.bel.trans ⟨hk.os, hk.tape, hk.output, hk.size, fun k hkw => ho k (h.low k (by omega) (by omega))⟩, h.low, fun k hko => Nat.lt_of_lt_of_le (h.lt k hko) hk.size, h1, h2, h3,
    h.k0.keep (ho _ (h.low _ (by omega) (by omega))), h.k1.keep (ho _ (h.low _ (by omega) (by omega))), h.k2.keep (ho _ (h.low _ (by omega) (by omega))), h.k3.keep (ho _ (h.low _ (by omega) (by omega))), h.st⟩

theorem divs_perm2 {n : Nat} (hn : n ≤ 4) {d : List Int} (hd : d ∈ divs n) : PermOf n d := by
  rw [divs, ← ordersL_exts n (by omega)] at hd
  exact orders_perm hn d hd

set_option maxRecDepth 100000 in
set_option maxHeartbeats 2000000 in
theorem better_c {A A1 A2 : Nat → Prop} {w : World} {wb : Nat} {vm vv v1 v2 : Value} {c : Com} {d S : List Int} (hw : Blk wb #[vm, vv] 60 w) (h : Cm A w vm vv c) (hok : c.Ok 4) (hd : Ints A1 w v1 d) (hpd : PermOf c.villages.length d) (hS : Ints A2 w v2 S) (hm1 : 1 ≤ S.length) (hm4 : S.length ≤ 4) (hSn : ∀ x ∈ S, 0 ≤ x ∧ x < (c.villages.length : Int)) :
    Calls Tryd.prog 37 #[.pointer (some ⟨wb, 0, none⟩), v1, v2] w fun e w' => e = .returned (.bool (betterB c.villages d S)) ∧ Below w.heap.size w w' := by
  obtain ⟨am, cpm, rfl, _, _⟩ := h.1.shape
  obtain ⟨av, cpv, rfl, _, _⟩ := h.2.shape
  have hvl4 : c.villages.length ≤ 4 := by have := hok.vl; have := hok.n2; omega
  have hvl1 : 0 < c.villages.length := by have := hok.vl; have := hok.n1; omega
  have hdl := hpd.len
  obtain ⟨ad, cd, rfl, _, _⟩ := hd.shape
  obtain ⟨asl, csl, rfl, _, _⟩ := hS.shape
  obtain ⟨db, dO, rfl, -, hdb, hdc⟩ := hd.addr (by omega)
  obtain ⟨sb, so, rfl, -, hsb, hsc⟩ := hS.addr hm1
  have hmf : ∀ (fn : Fn) (first cap : Array Value) (w : World), (Instr.makeFunc fn first cap).run Tryd.prog w = .ok (.func fn first cap) w := fun _ _ _ _ => rfl
  refine (callsIn_wide (n := 9)).1 (callsIn_of_wp_marks Tryd.func37 rfl trivial (wpIn_wide.2 ?_))
  simp only [Tryd.ntmps37, List.size_toArray, List.length_cons, List.length_nil, Nat.reduceAdd, Nat.reduceSub, Array.replicate_succ, Array.replicate_zero, List.push_toArray, List.append_toArray, List.nil_append, List.cons_append]
  have HDL := Lib.hid hdl
  clear hdl
  go_wp2_with fail
  go_step3
  go_wp2_with fail
  go_step3
  have hz3 : ((((w.alloc (.cells #[.pointer (some ⟨wb, 0, none⟩)] 55)).alloc (.cells #[.slice (some ⟨db, dO, none⟩) d.length cd] 22)).alloc (.cells #[.slice (some ⟨sb, so, none⟩) S.length csl] 22)).alloc (.cells #[.bool false] 4)).heap.size = w.heap.size + 4 := by simp
  have k0 : Blk w.heap.size #[.pointer (some ⟨wb, 0, none⟩)] 55 ((((w.alloc (.cells #[.pointer (some ⟨wb, 0, none⟩)] 55)).alloc (.cells #[.slice (some ⟨db, dO, none⟩) d.length cd] 22)).alloc (.cells #[.slice (some ⟨sb, so, none⟩) S.length csl] 22)).alloc (.cells #[.bool false] 4)) := (((blk_at rfl _ _).alloc _).alloc _).alloc _
  have k1 : Blk (w.heap.size + 1) #[.slice (some ⟨db, dO, none⟩) d.length cd] 22 ((((w.alloc (.cells #[.pointer (some ⟨wb, 0, none⟩)] 55)).alloc (.cells #[.slice (some ⟨db, dO, none⟩) d.length cd] 22)).alloc (.cells #[.slice (some ⟨sb, so, none⟩) S.length csl] 22)).alloc (.cells #[.bool false] 4)) := ((blk_at (by simp) _ _).alloc _).alloc _
  have k2 : Blk (w.heap.size + 1 + 1) #[.slice (some ⟨sb, so, none⟩) S.length csl] 22 ((((w.alloc (.cells #[.pointer (some ⟨wb, 0, none⟩)] 55)).alloc (.cells #[.slice (some ⟨db, dO, none⟩) d.length cd] 22)).alloc (.cells #[.slice (some ⟨sb, so, none⟩) S.length csl] 22)).alloc (.cells #[.bool false] 4)) := (blk_at (by simp) _ _).alloc _
  have k3 : Blk (w.heap.size + 1 + 1 + 1) #[.bool false] 4 ((((w.alloc (.cells #[.pointer (some ⟨wb, 0, none⟩)] 55)).alloc (.cells #[.slice (some ⟨db, dO, none⟩) d.length cd] 22)).alloc (.cells #[.slice (some ⟨sb, so, none⟩) S.length csl] 22)).alloc (.cells #[.bool false] 4)) := blk_at (by simp) _ _
  have hB3 : Below w.heap.size w ((((w.alloc (.cells #[.pointer (some ⟨wb, 0, none⟩)] 55)).alloc (.cells #[.slice (some ⟨db, dO, none⟩) d.length cd] 22)).alloc (.cells #[.slice (some ⟨sb, so, none⟩) S.length csl] 22)).alloc (.cells #[.bool false] 4)) := ((((Below.refl _ w).alloc (Nat.le_refl _) _).alloc (by simp) _).alloc (by simp; omega) _).alloc (by simp; omega) _
  obtain ⟨b0, hb0⟩ : ∃ b, b = w.heap.size := ⟨_, rfl⟩
  rw [← hb0] at hz3 k0 k1 k2 k3 ⊢
  generalize ((((w.alloc (.cells #[.pointer (some ⟨wb, 0, none⟩)] 55)).alloc (.cells #[.slice (some ⟨db, dO, none⟩) d.length cd] 22)).alloc (.cells #[.slice (some ⟨sb, so, none⟩) S.length csl] 22)).alloc (.cells #[.bool false] 4)) = w3 at *
  have c2 := k2.cell 0
  have HB0 := Lib.hid hb0
  clear hb0
  go_wp2_with (go_at_call 44; refine (divisions_c S.length _).mono ?_; rintro e w4 ⟨rfl, hw4⟩; obtain rfl := hw4)
  have c0' := k0.cell 0
  have hz4 : (w3.alloc (.cells #[.int .i64 (S.length : Int)] 3)).heap.size = b0 + 5 := by simp; omega
  have hnb : Blk (b0 + 4) #[.int .i64 (S.length : Int)] 3 (w3.alloc (.cells #[.int .i64 (S.length : Int)] 3)) := blk_at (by omega) _ _
  have k0 := k0.alloc (.cells #[.int .i64 (S.length : Int)] 3)
  have k1 := k1.alloc (.cells #[.int .i64 (S.length : Int)] 3)
  have k2 := k2.alloc (.cells #[.int .i64 (S.length : Int)] 3)
  have k3 := k3.alloc (.cells #[.int .i64 (S.length : Int)] 3)
  have hB4 := bal (o := .cells #[.int .i64 (S.length : Int)] 3) hB3
  generalize w3.alloc (.cells #[.int .i64 (S.length : Int)] 3) = w4 at *
  clear c0' c2 hz3 hB3
  have hb0 := HB0.out
  have hL0 : BI w (b0 + 5) (b0 + 4) b0 (.pointer (some ⟨wb, 0, none⟩)) (.slice (some ⟨db, dO, none⟩) d.length cd) (.slice (some ⟨sb, so, none⟩) S.length csl) false (fun pre => pre.any (fun p => fineB c.villages d S p S.length) = false) (fun k => k < b0 + 5 ∧ k ≠ b0 + 4) [] w4 :=
    ⟨hB4, fun k h1 h2 => ⟨h1, h2⟩, fun k hk => by omega, by omega, by omega, by omega, k0, k1, k2, k3, rfl⟩
  have HZ4 := Lib.hid hz4
  clear hz4 k0 k1 k2 k3 hb0
  refine wp_rangeDivs (n := S.length) (nb := b0 + 4) (a₁ := ?a1) rfl rfl hm4 hnb (BI w (b0 + 5) (b0 + 4) b0 (.pointer (some ⟨wb, 0, none⟩)) (.slice (some ⟨db, dO, none⟩) d.length cd) (.slice (some ⟨sb, so, none⟩) S.length csl) false (fun pre => pre.any (fun p => fineB c.villages d S p S.length) = false))
    (fun cd' own pre W => cd' = .ret ∧ BI w (b0 + 5) (b0 + 4) b0 (.pointer (some ⟨wb, 0, none⟩)) (.slice (some ⟨db, dO, none⟩) d.length cd) (.slice (some ⟨sb, so, none⟩) S.length csl) true (fun pre => pre.any (fun p => fineB c.villages d S p S.length) = true) own pre W)
    (BI.side _ _ _ _ _ _ _ _ _) (fun cd' => ⟨fun own pre W h => (BI.side _ _ _ _ _ _ _ _ _).lt own pre W h.2, fun own pre W W' h hk => ⟨h.1, (BI.side _ _ _ _ _ _ _ _ _).step own pre W W' h.2 hk⟩⟩) (fun h => h.2 rfl) hL0 ?assign ?body ?done ?stop
  case assign =>
    intro l v W K hK
    gi_wp2
    exact hK
  case body =>
    intro l own pre x v W h1 hL hoh hh hv hpre
    refine wpIn_block ?_
    have hxm : x ∈ divs S.length := hpre.subset (by simp)
    have hxl := divs_row hxm
    have hxp := divs_perm2 hm4 hxm
    have hsv := hv.shape
    rw [hxl] at hsv
    obtain ⟨ax, cx, rfl, _, _⟩ := hsv
    have hxp2 := hxp.mem
    have HXM := Lib.hid hxp2
    have HXL := Lib.hid hxl
    clear hxm hxl hxp hxp2 hpre
    gi_wp2_with fail
    have hbl := hL.bel
    have hwl := hL.wN
    have hwW := hw.call hbl
    have hvW := h.2.call hbl
    have hdcW := fun j (hj : j < d.length) => (World.cell?_of_block (hbl.block db hdb)).trans (hdc j hj)
    have hscW := fun j (hj : j < S.length) => (World.cell?_of_block (hbl.block sb hsb)).trans (hsc j hj)
    have k0 := hL.k0
    have k1 := hL.k1
    have k2 := hL.k2
    have HDCW := Lib.hid hdcW
    have HSCW := Lib.hid hscW
    have HSN := Lib.hid hSn
    have HPD := Lib.hid hpd
    clear hdcW hscW
    gi_loopw [16] (fun s16 wr => ∃ q : Nat, q ≤ S.length ∧ s16 = .int .i64 q ∧ fineB c.villages d S x q = true ∧ Qt W wr) (fun s16 _ => S.length - (intOf s16).toNat)
    case atStart => exact ⟨0, Nat.zero_le _, rfl, rfl, Qt.refl _⟩
    case round =>
      obtain ⟨q, hq, rfl, hft, hQr⟩ := hrel
      by_cases hql : q < S.length
      · have hfs := fineB_succ c.villages d S x q
        rw [hft, Bool.true_and] at hfs
        have kp : q < x.length := by have := HXL.out; omega
        obtain ⟨t1, t2⟩ := HSN.out _ (List.getElem_mem hql)
        obtain ⟨t3, t4⟩ := (HXM.out _).1 (List.getElem_mem kp)
        obtain ⟨who, hwho⟩ : ∃ who : Nat, S[q] = (who : Int) := ⟨S[q].toNat, by omega⟩
        obtain ⟨pi, hpi⟩ : ∃ pi : Nat, x[q] = (pi : Int) := ⟨x[q].toNat, by omega⟩
        have hwn : who < c.villages.length := by omega
        have hpm : pi < S.length := by omega
        obtain ⟨t5, t6⟩ := HSN.out _ (List.getElem_mem hpm)
        obtain ⟨sv, hsv⟩ : ∃ sv : Nat, S[pi] = (sv : Int) := ⟨S[pi].toNat, by omega⟩
        have hsn : sv < c.villages.length := by omega
        have e1 : gAt S q = who := by simp [gAt, hql, hwho]
        have e2 : gTo S x q = sv := by simp [gTo, kp, hpi, hpm, hsv]
        have kf : sv < d.length := by have := HDL.out; omega
        have kd : who < d.length := by have := HDL.out; omega
        have e3 : d.getD sv 0 = d[sv] := by simp [kf]
        have e4 : d.getD who 0 = d[who] := by simp [kd]
        rw [e1, e2, e3, e4] at hfs
        have g1 := HSCW.out q hql
        have g2 := HSCW.out pi hpm
        have g4 := HDCW.out sv kf
        have g5 := HDCW.out who kd
        obtain ⟨xb, xo, rfl, -, -, hxc⟩ := hv.addr (by omega)
        have g3 := (hv.qt hQr)
        have g3 := Ints.cell g3 q kp
        rw [hwho] at g1
        rw [hsv] at g2
        rw [hpi] at g3
        obtain ⟨x2, hx⟩ : ∃ x2, x2 = d[sv] := ⟨_, rfl⟩
        obtain ⟨y, hy⟩ : ∃ y, y = d[who] := ⟨_, rfl⟩
        rw [← hx] at hfs g4
        rw [← hy] at hfs g5
        have HFS := Lib.hid hfs
        have HFT := Lib.hid hft
        have hE : ∀ w', Qt W w' → (BrS b0 (.pointer (some ⟨wb, 0, none⟩)) (.slice (some ⟨db, dO, none⟩) d.length cd) (.slice (some ⟨sb, so, none⟩) S.length csl) sb (so + q) who sb (so + pi) sv db (dO + sv) x2 db (dO + who) y) w' := fun w' hq' => ⟨k0.call (hq'.below _), k1.call (hq'.below _), k2.call (hq'.below _), (World.cell?_of_block (by rw [hq'.heap])).trans g1, (World.cell?_of_block (by rw [hq'.heap])).trans g2, (World.cell?_of_block (by rw [hq'.heap])).trans g4, (World.cell?_of_block (by rw [hq'.heap])).trans g5⟩
        clear hfs hft e1 e2 e3 e4 hx hy g1 g2 g4 g5 hwho hpi hsv t1 t2 t3 t4 t5 t6 hxc
        gi_wp2_with fail
        refine wpIn_region_mix2 (.one 0 (.one 1 (.pur 2 (.pur 3 (.one 4 (.one 5 (.one 6 (.pur 7 (.pur 8 (.one 9 (.pur 10 (.one 11 (.one 12 (.one 13 (.pur 14 (.pur 15 (.one 16 (.pur 17 (.one 18 (.act 19 (.pur 20 .fin))))))))))))))))))))) 99 (BrS b0 (.pointer (some ⟨wb, 0, none⟩)) (.slice (some ⟨db, dO, none⟩) d.length cd) (.slice (some ⟨sb, so, none⟩) S.length csl) sb (so + q) who sb (so + pi) sv db (dO + sv) x2 db (dO + who) y) (fun _ => True) (by kernel_rfl) (by kernel_rfl) (by kernel_rfl) (fun a w h => by obtain ⟨o, _, _, h⟩ := h; exact h) rfl (by kernel_rfl) (hE _ (hQr.drewN 1)) (fun wd hqd _ => ?_)
        refine mix_load2 rfl rfl rfl (.pointer (some ⟨wb, 0, none⟩)) (fun w' h => by have h : (BrS b0 (.pointer (some ⟨wb, 0, none⟩)) (.slice (some ⟨db, dO, none⟩) d.length cd) (.slice (some ⟨sb, so, none⟩) S.length csl) sb (so + q) who sb (so + pi) sv db (dO + sv) x2 db (dO + who) y) w' := h; have h0 := h.1.cell 0; go_simp) rfl ?_
        refine mix_load2 rfl rfl rfl (.slice (some ⟨sb, so, none⟩) S.length csl) (fun w' h => by have h : (BrS b0 (.pointer (some ⟨wb, 0, none⟩)) (.slice (some ⟨db, dO, none⟩) d.length cd) (.slice (some ⟨sb, so, none⟩) S.length csl) sb (so + q) who sb (so + pi) sv db (dO + sv) x2 db (dO + who) y) w' := h; have h0 := h.2.2.1.cell 0; go_simp) rfl ?_
        refine mix_pur2 rfl (fun K hK => ?_)
        go_simp
        first | refine ⟨_, fun _ => rfl, hK _ ?_⟩ | refine hK _ ?_
        clear hK K
        refine mix_pur2 rfl (fun K hK => ?_)
        go_simp
        first | refine ⟨_, fun _ => rfl, hK _ ?_⟩ | refine hK _ ?_
        clear hK K
        refine mix_load2 rfl rfl rfl (.int .i64 who) (fun w' h => by have h : (BrS b0 (.pointer (some ⟨wb, 0, none⟩)) (.slice (some ⟨db, dO, none⟩) d.length cd) (.slice (some ⟨sb, so, none⟩) S.length csl) sb (so + q) who sb (so + pi) sv db (dO + sv) x2 db (dO + who) y) w' := h; have h0 := h.2.2.2.1; go_simp) rfl ?_
        refine mix_load2 rfl rfl rfl (.slice (some ⟨db, dO, none⟩) d.length cd) (fun w' h => by have h : (BrS b0 (.pointer (some ⟨wb, 0, none⟩)) (.slice (some ⟨db, dO, none⟩) d.length cd) (.slice (some ⟨sb, so, none⟩) S.length csl) sb (so + q) who sb (so + pi) sv db (dO + sv) x2 db (dO + who) y) w' := h; have h0 := h.2.1.cell 0; go_simp) rfl ?_
        refine mix_load2 rfl rfl rfl (.slice (some ⟨sb, so, none⟩) S.length csl) (fun w' h => by have h : (BrS b0 (.pointer (some ⟨wb, 0, none⟩)) (.slice (some ⟨db, dO, none⟩) d.length cd) (.slice (some ⟨sb, so, none⟩) S.length csl) sb (so + q) who sb (so + pi) sv db (dO + sv) x2 db (dO + who) y) w' := h; have h0 := h.2.2.1.cell 0; go_simp) rfl ?_
        refine mix_pur2 rfl (fun K hK => ?_)
        go_simp
        first | refine ⟨_, fun _ => rfl, hK _ ?_⟩ | refine hK _ ?_
        clear hK K
        refine mix_pur2 rfl (fun K hK => ?_)
        go_simp
        first | refine ⟨_, fun _ => rfl, hK _ ?_⟩ | refine hK _ ?_
        clear hK K
        refine mix_load2 rfl rfl rfl (.int .i64 sv) (fun w' h => by have h : (BrS b0 (.pointer (some ⟨wb, 0, none⟩)) (.slice (some ⟨db, dO, none⟩) d.length cd) (.slice (some ⟨sb, so, none⟩) S.length csl) sb (so + q) who sb (so + pi) sv db (dO + sv) x2 db (dO + who) y) w' := h; have h0 := h.2.2.2.2.1; go_simp) rfl ?_
        refine mix_pur2 rfl (fun K hK => ?_)
        go_simp
        first | refine ⟨_, fun _ => rfl, hK _ ?_⟩ | refine hK _ ?_
        clear hK K
        refine mix_load2 rfl rfl rfl (.int .i64 x2) (fun w' h => by have h : (BrS b0 (.pointer (some ⟨wb, 0, none⟩)) (.slice (some ⟨db, dO, none⟩) d.length cd) (.slice (some ⟨sb, so, none⟩) S.length csl) sb (so + q) who sb (so + pi) sv db (dO + sv) x2 db (dO + who) y) w' := h; have h0 := h.2.2.2.2.2.1; go_simp) rfl ?_
        refine mix_load2 rfl rfl rfl (.slice (some ⟨db, dO, none⟩) d.length cd) (fun w' h => by have h : (BrS b0 (.pointer (some ⟨wb, 0, none⟩)) (.slice (some ⟨db, dO, none⟩) d.length cd) (.slice (some ⟨sb, so, none⟩) S.length csl) sb (so + q) who sb (so + pi) sv db (dO + sv) x2 db (dO + who) y) w' := h; have h0 := h.2.1.cell 0; go_simp) rfl ?_
        refine mix_load2 rfl rfl rfl (.slice (some ⟨sb, so, none⟩) S.length csl) (fun w' h => by have h : (BrS b0 (.pointer (some ⟨wb, 0, none⟩)) (.slice (some ⟨db, dO, none⟩) d.length cd) (.slice (some ⟨sb, so, none⟩) S.length csl) sb (so + q) who sb (so + pi) sv db (dO + sv) x2 db (dO + who) y) w' := h; have h0 := h.2.2.1.cell 0; go_simp) rfl ?_
        refine mix_pur2 rfl (fun K hK => ?_)
        go_simp
        first | refine ⟨_, fun _ => rfl, hK _ ?_⟩ | refine hK _ ?_
        clear hK K
        refine mix_pur2 rfl (fun K hK => ?_)
        go_simp
        first | refine ⟨_, fun _ => rfl, hK _ ?_⟩ | refine hK _ ?_
        clear hK K
        refine mix_load2 rfl rfl rfl (.int .i64 who) (fun w' h => by have h : (BrS b0 (.pointer (some ⟨wb, 0, none⟩)) (.slice (some ⟨db, dO, none⟩) d.length cd) (.slice (some ⟨sb, so, none⟩) S.length csl) sb (so + q) who sb (so + pi) sv db (dO + sv) x2 db (dO + who) y) w' := h; have h0 := h.2.2.2.1; go_simp) rfl ?_
        refine mix_pur2 rfl (fun K hK => ?_)
        go_simp
        first | refine ⟨_, fun _ => rfl, hK _ ?_⟩ | refine hK _ ?_
        clear hK K
        refine mix_load2 rfl rfl rfl (.int .i64 y) (fun w' h => by have h : (BrS b0 (.pointer (some ⟨wb, 0, none⟩)) (.slice (some ⟨db, dO, none⟩) d.length cd) (.slice (some ⟨sb, so, none⟩) S.length csl) sb (so + q) who sb (so + pi) sv db (dO + sv) x2 db (dO + who) y) w' := h; have h0 := h.2.2.2.2.2.2; go_simp) rfl ?_
        refine mix_eff2 rfl false rfl (fun K hK => ?_)
        go_simp
        refine (prefers_c ((hwW.call (hQr.below _)).call (hqd.below _)) ((hvW.call (hQr.below _)).call (hqd.below _)) who hwn x2 y).mono ?_
        rintro e w8 ⟨rfl, hq8⟩
        refine hK _ _ (hE _ (hQr.trans (hqd.trans hq8))) ?_
        clear hK K
        refine mix_pur2 rfl (fun K hK => ?_)
        go_simp
        first | refine ⟨_, fun _ => rfl, hK _ ?_⟩ | refine hK _ ?_
        clear hK K
        refine mix_done2 ?_
        have hQ9 := hQr.trans (hqd.trans hq8)
        obtain ⟨u, hu⟩ : ∃ u, u = decide (rk c.villages who x2 < rk c.villages who y) := ⟨_, rfl⟩
        rw [← hu] at HFS ⊢
        clear hq8 hqd hu hE
        cases u with
        | true =>
          gi_wp2_with fail
          go_roundw
          case rel => exact ⟨q + 1, by omega, by go_num, HFS.out, hQ9⟩
          case measure => simp [intOf]; omega
        | false =>
          gi_wp2_with fail
          have hfin := fineB_stop (show q + 1 ≤ S.length by omega) HFS.out
          have hst : (pre ++ [x]).any (fun p => fineB c.villages d S p S.length) = false := by
            rw [List.any_append, hL.st, List.any_cons, List.any_nil, hfin]; rfl
          have hk9 : Keep own W w8 := Keep.qt hQ9
          have hI9 := (BI.side w (b0 + 5) (b0 + 4) b0 (.pointer (some ⟨wb, 0, none⟩)) (.slice (some ⟨db, dO, none⟩) d.length cd) (.slice (some ⟨sb, so, none⟩) S.length csl) false (fun pre => pre.any (fun p => fineB c.villages d S p S.length) = false)).step own pre W w8 hL (Keep.qt hQ9)
          exact ⟨own, fun k _ h => h, hk9, { hI9 with st := hst }⟩
      · obtain rfl : q = S.length := by omega
        have k3 := (hL.k3.call (hQr.below _))
        have d0 := k3.cell 0
        have f0 := k3.free 0
        gi_wp2_with fail
        have hst : (pre ++ [x]).any (fun p => fineB c.villages d S p S.length) = true := by
          rw [List.any_append, hL.st, List.any_cons, List.any_nil, hft]; rfl
        have h4 := hL.wN; have h5 := hL.bN; have h6 := hL.nN
        have ok3 := hL.low (b0 + 1 + 1 + 1) (by omega) (by omega)
        have hk9 : Keep own W (wr.setCell ⟨b0 + 1 + 1 + 1, 0, none⟩ (.bool true)) := (Keep.qt hQr).trans (Keep.setCell _ ⟨b0 + 1 + 1 + 1, 0, none⟩ _ ok3)
        have hI9 := (BI.side w (b0 + 5) (b0 + 4) b0 (.pointer (some ⟨wb, 0, none⟩)) (.slice (some ⟨db, dO, none⟩) d.length cd) (.slice (some ⟨sb, so, none⟩) S.length csl) false (fun pre => pre.any (fun p => fineB c.villages d S p S.length) = false)).step own pre W wr hL (Keep.qt hQr)
        exact ⟨own, fun k _ h => h, hk9, rfl, hI9.bel.setCell (show w.heap.size ≤ b0 + 1 + 1 + 1 by omega) _, hI9.low, fun k hk => by have := hI9.lt k hk; simpa [World.setCell] using this, hI9.wN, hI9.bN, hI9.nN,
          hI9.k0.other (a := ⟨b0 + 1 + 1 + 1, 0, none⟩) (by show b0 ≠ b0 + 1 + 1 + 1; omega) _, hI9.k1.other (a := ⟨b0 + 1 + 1 + 1, 0, none⟩) (by show b0 + 1 ≠ b0 + 1 + 1 + 1; omega) _, hI9.k2.other (a := ⟨b0 + 1 + 1 + 1, 0, none⟩) (by show b0 + 1 + 1 ≠ b0 + 1 + 1 + 1; omega) _, by simpa using hI9.k3.set 0 (.bool true), hst⟩
  case done =>
    intro D own W hL hD hDl hDo
    have k3 := hL.k3
    have d0 := k3.cell 0
    have f0 := k3.free 0
    have hst := hL.st
    have hbe : betterB c.villages d S = (divs S.length).any (fun p => fineB c.villages d S p S.length) := by rw [betterB, ordersL_exts S.length (by omega)]; rfl
    rw [hst] at hbe
    have HBE := Lib.hid hbe
    have h4 := hL.wN; have h5 := hL.bN; have h6 := hL.nN
    have hDne : D ≠ b0 + 1 + 1 + 1 := fun e => hDo (by rw [e]; exact hL.low _ (by omega) (by omega))
    have hDlt := (Array.getElem?_eq_some_iff.1 hD).1
    clear hst hbe
    go_wp2_with fail
    rw [Exit.noGoto_ret]
    have hD2 : (W.setCell ⟨b0 + 1 + 1 + 1, 0, none⟩ (.bool false)).heap[D]? = some (.deferred (some [])) := (Below.heap_setCell _ _ _ _ (show D ≠ b0 + 1 + 1 + 1 from hDne)).trans hD
    have hwl : w.heap.size ≤ b0 := hL.wN
    have hB5 : Below w.heap.size w (W.setCell ⟨b0 + 1 + 1 + 1, 0, none⟩ (.bool false)) := hL.bel.setCell (show w.heap.size ≤ b0 + 1 + 1 + 1 by omega) _
    have k4 : Blk (b0 + 1 + 1 + 1) #[.bool false] 4 (W.setCell ⟨b0 + 1 + 1 + 1, 0, none⟩ (.bool false)) := by simpa using k3.set 0 (.bool false)
    generalize W.setCell ⟨b0 + 1 + 1 + 1, 0, none⟩ (.bool false) = W5 at *
    refine ⟨by simp, .inl ⟨_, _, rfl, run_takeDeferred hD2, ?_⟩⟩
    have k5 : Blk (b0 + 1 + 1 + 1) #[.bool false] 4 (W5.putObj D (.deferred none)) := k4.keep (World.putObj_heap_other (r := D) (fun e => hDne e.symm))
    have d1 := k5.cell 0
    refine ⟨.bool false, by simp [results, Tryd.results37, go_sem, d1], by rw [HBE.out], ?_⟩
    exact hB5.trans ⟨rfl, rfl, rfl, by simp, fun k hk => World.putObj_heap_other (by have := HZ4.out; omega)⟩
  case stop =>
    intro D cx own pre W hpr h hD hDl hDo
    obtain ⟨rfl, hL⟩ := h
    have hst := hL.st
    have k3 := hL.k3
    have hwl := hL.wN; have h5 := hL.bN; have h6 := hL.nN
    have hDne : D ≠ b0 + 1 + 1 + 1 := fun e => hDo (by rw [e]; exact hL.low _ (by omega) (by omega))
    have hbe : betterB c.villages d S = true := by
      rw [betterB, ordersL_exts S.length (by omega)]
      obtain ⟨p, hp, hf⟩ := List.any_eq_true.1 hst
      exact List.any_eq_true.2 ⟨p, hpr.subset hp, hf⟩
    have HBE := Lib.hid hbe
    clear hst hbe
    go_wp2_with fail
    rw [Exit.noGoto_ret]
    refine ⟨by simp, .inl ⟨_, _, rfl, run_takeDeferred hD, ?_⟩⟩
    have k5 : Blk (b0 + 1 + 1 + 1) #[.bool true] 4 (W.putObj D (.deferred none)) := k3.keep (World.putObj_heap_other (r := D) (fun e => hDne e.symm))
    have d1 := k5.cell 0
    refine ⟨.bool true, by simp [results, Tryd.results37, go_sem, d1], by rw [HBE.out], ?_⟩
    exact hL.bel.trans ⟨rfl, rfl, rfl, by simp, fun k hk => World.putObj_heap_other (by have := HZ4.out; omega)⟩

end Go.Proofs.YtmlikgjfpmjdcaaDoor
