/- The truths of an edge as mestalaw06.truths finds them: all lists of offsets are tried; conditions: an edge of at most three points. -/
import Derived.Test.YtgdifckmjdjcpaaWds
import Derived.Test.YtgdifckmjdjcpaaStp
namespace Go.Proofs.Ytgdifckmjdjcpaa
open Go.RowKit

def benF (B : Int) (l : List Int) (j : Nat) : Bool := (List.range j).all fun p => bendB B (atL l) p
theorem benF_succ (B : Int) (l : List Int) (j : Nat) : benF B l (j + 1) = (benF B l j && bendB B (atL l) j) := by simp [benF, List.range_succ]
theorem isT_word {x : Edg} {l : List Int} (h1 : l.length = x.n) (h2 : ∀ u ∈ l, 0 ≤ u ∧ u ≤ 9) : isT x l = (benF x.bend l (x.n - 1) && x.claims.all fun c => c.holds (atL l)) := by
  unfold isT benF
  have a : (l.length == x.n) = true := by rw [h1]; exact beq_self_eq_true _
  have b : (l.all fun a => btwB a 0 9) = true := List.all_eq_true.2 fun u hu => btwB_iff.2 (h2 u hu)
  rw [a, b]
  simp
/-- What a step between two points reads. -/
def TrS (br o : Nat) (vr : Value) (ba p q : Nat) (v1 v0 : Int) (w : World) : Prop := w.cell? ⟨br, o, none⟩ = some vr ∧ w.cell? ⟨ba, p, none⟩ = some (.int .i64 v1) ∧ w.cell? ⟨ba, q, none⟩ = some (.int .i64 v0)
/-- What a claim's test reads. -/
def TrC (b : Nat) (cs : Array Value) (gc o : Nat) (c : Cl) (br p : Nat) (vr : Value) (w : World) : Prop :=
  Blk b cs 24 w ∧ (w.cell? ⟨gc, o, none⟩ = some (.int .i64 c.kind) ∧ w.cell? ⟨gc, o + 1, none⟩ = some (.int .i64 c.point) ∧ w.cell? ⟨gc, o + 2, none⟩ = some (.int .i64 c.other) ∧ w.cell? ⟨gc, o + 3, none⟩ = some (.int .i64 c.off) ∧ w.cell? ⟨gc, o + 4, none⟩ = some (.int .i64 c.err)) ∧ w.cell? ⟨br, p, none⟩ = some vr
theorem ent41 : Ent 41 := ⟨_, Try.func41, rfl, by kernel_rfl⟩

set_option maxRecDepth 100000 in
set_option maxHeartbeats 20000000 in
theorem truthsL_c {A : Nat → Prop} {w : World} {v : Value} {x : Edg} (h : ClsM A w v x.claims) (hok : x.Ok) (h3 : x.points ≤ 3) : Calls Try.prog 48 #[.agg #[.int .i64 x.points, .int .i64 x.bend, v]] w fun e w' => ∃ v', e = .returned v' ∧ Grid (fun q => w.heap.size ≤ q) w' v' (truthsF x) ∧ Below w.heap.size w w' := by
  obtain ⟨ax, cx, rfl, hcx1, hcx2⟩ := h.shape
  have n1 := h.len
  have hp := hok.p
  have hb := hok.b
  have hm := hok.m
  obtain ⟨n, hn⟩ : ∃ n : Nat, x.points = (n : Int) := ⟨x.n, by unfold Edg.n; omega⟩
  have hxn : x.n = n := by unfold Edg.n; omega
  have hn3 : 1 ≤ n ∧ n ≤ 3 := by omega
  obtain ⟨w1, hw1⟩ : ∃ w1, w1 = w.alloc (.cells #[.int .i64 x.points, .int .i64 x.bend, .slice ax x.claims.length cx] 24) := ⟨_, rfl⟩
  obtain ⟨b1, hb1⟩ : ∃ b, b = w.heap.size := ⟨_, rfl⟩
  have hX1 : Blk b1 #[.int .i64 x.points, .int .i64 x.bend, .slice ax x.claims.length cx] 24 w1 := by rw [hw1, hb1]; exact Blk.new w _ _
  have hB1 : Below w.heap.size w w1 := by rw [hw1]; exact (Below.refl _ w).alloc (Nat.le_refl _) _
  have hC1 := h.call hB1
  have hwd : Calls Try.prog 93 #[.int .i64 10, .int .i64 x.points] w1 fun e w' => ∃ v', e = .returned v' ∧ Grid (fun b => w1.heap.size ≤ b) w' v' (wordsF n) ∧ Below w1.heap.size w1 w' := by
    rw [hn, ← wordsL_words]
    exact words_c (n := 10) (Nat.le_refl _) n (by omega) w1
  have hRl : (wordsF n).length ≤ 1000 := by rw [← wordsL_words]; exact (wordsL_len (Nat.le_refl _) n (by omega)).1
  have hRa := words_in n
  have hRt : (wordsF n).filter (isT x) = truthsF x := by rw [← hxn]; exact words_truths x
  generalize wordsF n = R at hwd hRl hRa hRt
  have HRA := Lib.hid hRa
  have HRT := Lib.hid hRt
  have HWD := Lib.hid hwd
  have HOK := Lib.hid hok
  have HN := Lib.hid hn
  clear hRa hRt hwd hok hn
  go_enter Try.func48, Try.ntmps48
  go_upto_region 1 with fail
  rw [← hw1, ← hb1]
  have c0 := hX1.cell 0
  clear hw1 hb1
  go_wp2_with fail
  refine HWD.out.mono ?_
  rintro e w2 ⟨vr, rfl, hG, hB2⟩
  have hs1 := hB1.size
  have hG := hG.wide (A' := fun q => w.heap.size ≤ q ∧ q < w2.heap.size) fun k hk hl => ⟨by omega, hl⟩
  obtain ⟨ar, cr, rfl, _, _⟩ := hG.shape
  have hX2 := hX1.call hB2
  have hC2 := hC1.call hB2
  clear HWD c0 hX1 hC1
  go_wp2_with fail
  go_loopw [4, 5] (fun s4 i wr => ∃ (k : Nat) (out : List (List Int)), k ≤ R.length ∧ i = .int .i64 k ∧ out = (R.take k).filter (isT x) ∧ GO (fun b => w.heap.size ≤ b) w2.heap.size wr s4 out ∧ Below w2.heap.size w2 wr) (fun _ i _ => R.length - (intOf i).toNat)
  case atStart => exact ⟨0, [], Nat.zero_le _, rfl, rfl, GO.nil _ _ _, Below.refl _ _⟩
  case round =>
    obtain ⟨k, out, hk, rfl, hout, hGo, hB⟩ := hrel
    have houtb : out.length ≤ 1000 := by
      rw [hout]
      have h1 := List.length_filter_le (isT x) (R.take k)
      have h2 := List.length_take_le k R
      omega
    have HOUT := Lib.hid hout
    clear hout
    by_cases hkl : k < R.length
    · obtain ⟨br, or, rfl, -, hbr⟩ := hG.addr (by omega)
      obtain ⟨aw, cw, g1, hrow⟩ := (hG.call hB).row k hkl
      have hf := filter_take (isT x) R k hkl
      have hin := HRA.out R[k] (List.getElem_mem hkl)
      obtain ⟨l, hle⟩ : ∃ l, l = R[k] := ⟨_, rfl⟩
      rw [← hle] at g1 hrow hf hin
      have hln1 : l.length ≤ n := Nat.le_of_eq hin.1
      have hln2 : n ≤ l.length := Nat.le_of_eq hin.1.symm
      have hl9 := hin.2
      have hw := isT_word (x := x) (l := l) (by omega) hl9
      rw [hxn] at hw
      have HF := Lib.hid hf
      have HW := Lib.hid hw
      have HL9 := Lib.hid hl9
      have hsx := hB.size
      obtain ⟨ba, oa, rfl, -, -⟩ := hrow.addr (by have := HN.out; omega)
      clear hle hf hin hl9 hw
      have hX3 := hX2.call hB
      have hC3 := hC2.call hB
      go_wp2_with fail
      go_loopw [6, 7] (fun s6 s7 wx => ∃ q j : Nat, q = j + 1 ∧ q ≤ n ∧ s7 = .int .i64 q ∧ s6 = .bool (benF x.bend l j) ∧ Qt wr wx) (fun _ s7 _ => n - (intOf s7).toNat)
      case atStart => exact ⟨1, 0, rfl, by have := HN.out; omega, rfl, rfl, Qt.refl _⟩
      case round =>
        rename World => wx
        obtain ⟨q, j, hqj, hqn, rfl, rfl, hq⟩ := hrel
        have hj1 : j + 1 ≤ q := by omega
        have hj2 : q ≤ j + 1 := by omega
        have HQJ := Lib.hid hqj
        clear hqj
        have hXx := hX3.qt hq
        have x0 := hXx.cell 0
        rw [HN.out] at x0
        by_cases hjn : q < n
        · have hb1q : decide ((q : Int) < (n : Int)) = true := decide_eq_true (by omega)
          obtain ⟨v1, hv1⟩ : ∃ v1, v1 = l[q]'(by omega) := ⟨_, rfl⟩
          obtain ⟨v0, hv0⟩ : ∃ v0, v0 = l[j]'(by omega) := ⟨_, rfl⟩
          have hts : ∀ w', Qt wx w' → (TrS br (or + k) (.slice (some ⟨ba, oa, none⟩) l.length cw) ba (oa + q) (oa + j) v1 v0) w' := fun w' hq' => by
            have hr := hrow.qt (hq.trans hq')
            refine ⟨?_, ?_, ?_⟩
            · obtain ⟨q2, rfl⟩ := hq.trans hq'
              exact g1
            · rw [hv1]; exact hr.cell q (by omega)
            · rw [hv0]; exact hr.cell j (by omega)
          have HTS := Lib.hid hts
          have h1 := HL9.out v1 (by rw [hv1]; exact List.getElem_mem _)
          have h0 := HL9.out v0 (by rw [hv0]; exact List.getElem_mem _)
          have hbe : benF x.bend l (j + 1) = (benF x.bend l j && btwB (v1 - v0) (-x.bend) x.bend) := by
            rw [benF_succ]
            unfold bendB
            rw [atL_at (by omega), atL_at (by omega), hv1, hv0]
            have hqj := HQJ.out
            subst hqj
            rfl
          have HBE := Lib.hid hbe
          have bj : IntKind.i64.wrap ((q : Int) - 1) = (j : Int) := by rw [IntWalk.i64_in _ (by omega)]; omega
          have bd : IntKind.i64.wrap (v1 - v0) = v1 - v0 := IntWalk.i64_in _ (by omega)
          have bn : IntKind.i64.wrap (-x.bend) = -x.bend := IntWalk.i64_in _ (by omega)
          have hjn2 : j < l.length := by omega
          have hqn2 : q < l.length := by omega
          clear hts hbe hv1 hv0 hXx
          go_upto_region 10 with fail
          refine wp_region_mix2 (.pur 0 (.pur 1 (.pur 2 (.one 3 (.pur 4 (.pur 5 (.one 6 (.pur 7 (.pur 8 (.pur 9 (.one 10 (.pur 11 (.pur 12 (.pur 13 (.one 14 (.pur 15 (.pur 16 .fin))))))))))))))))) 99 (TrS br (or + k) (.slice (some ⟨ba, oa, none⟩) l.length cw) ba (oa + q) (oa + j) v1 v0) (fun _ => True) (by kernel_rfl) (by kernel_rfl) rfl (by kernel_rfl) (HTS.out _ ((Qt.refl _).drewN 1)) (fun wd hqd _ => ?_)
          refine mix_pur2 rfl (fun K hK => ?_)
          go_simp
          first | refine ⟨_, fun _ => rfl, hK _ ?_⟩ | refine hK _ ?_
          clear hK K
          refine mix_pur2 rfl (fun K hK => ?_)
          go_simp
          first | refine ⟨_, fun _ => rfl, hK _ ?_⟩ | refine hK _ ?_
          clear hK K
          refine mix_pur2 rfl (fun K hK => ?_)
          go_simp
          first | refine ⟨_, fun _ => rfl, hK _ ?_⟩ | refine hK _ ?_
          clear hK K
          refine mix_load2 rfl rfl rfl (.slice (some ⟨ba, oa, none⟩) l.length cw) (fun w' h => by have h : (TrS br (or + k) (.slice (some ⟨ba, oa, none⟩) l.length cw) ba (oa + q) (oa + j) v1 v0) w' := h; have e0 := h.1; go_simp) rfl ?_
          refine mix_pur2 rfl (fun K hK => ?_)
          go_simp
          first | refine ⟨_, fun _ => rfl, hK _ ?_⟩ | refine hK _ ?_
          clear hK K
          refine mix_pur2 rfl (fun K hK => ?_)
          go_simp
          first | refine ⟨_, fun _ => rfl, hK _ ?_⟩ | refine hK _ ?_
          clear hK K
          refine mix_load2 rfl rfl rfl (.int .i64 v1) (fun w' h => by have h : (TrS br (or + k) (.slice (some ⟨ba, oa, none⟩) l.length cw) ba (oa + q) (oa + j) v1 v0) w' := h; have e0 := h.2.1; go_simp) rfl ?_
          refine mix_pur2 rfl (fun K hK => ?_)
          go_simp
          first | refine ⟨_, fun _ => rfl, hK _ ?_⟩ | refine hK _ ?_
          clear hK K
          refine mix_pur2 rfl (fun K hK => ?_)
          go_simp
          first | refine ⟨_, fun _ => rfl, hK _ ?_⟩ | refine hK _ ?_
          clear hK K
          refine mix_pur2 rfl (fun K hK => ?_)
          go_simp
          first | refine ⟨_, fun _ => rfl, hK _ ?_⟩ | refine hK _ ?_
          clear hK K
          refine mix_load2 rfl rfl rfl (.slice (some ⟨ba, oa, none⟩) l.length cw) (fun w' h => by have h : (TrS br (or + k) (.slice (some ⟨ba, oa, none⟩) l.length cw) ba (oa + q) (oa + j) v1 v0) w' := h; have e0 := h.1; go_simp) rfl ?_
          refine mix_pur2 rfl (fun K hK => ?_)
          go_simp
          first | refine ⟨_, fun _ => rfl, hK _ ?_⟩ | refine hK _ ?_
          clear hK K
          refine mix_pur2 rfl (fun K hK => ?_)
          go_simp
          first | refine ⟨_, fun _ => rfl, hK _ ?_⟩ | refine hK _ ?_
          clear hK K
          refine mix_pur2 rfl (fun K hK => ?_)
          go_simp
          first | refine ⟨_, fun _ => rfl, hK _ ?_⟩ | refine hK _ ?_
          clear hK K
          refine mix_load2 rfl rfl rfl (.int .i64 v0) (fun w' h => by have h : (TrS br (or + k) (.slice (some ⟨ba, oa, none⟩) l.length cw) ba (oa + q) (oa + j) v1 v0) w' := h; have e0 := h.2.2; go_simp) rfl ?_
          refine mix_pur2 rfl (fun K hK => ?_)
          go_simp
          first | refine ⟨_, fun _ => rfl, hK _ ?_⟩ | refine hK _ ?_
          clear hK K
          refine mix_pur2 rfl (fun K hK => ?_)
          go_simp
          first | refine ⟨_, fun _ => rfl, hK _ ?_⟩ | refine hK _ ?_
          clear hK K
          refine mix_done2 ?_
          have hXd := hX3.qt (hq.trans hqd)
          have x1 := hXd.cell 1
          clear x0
          cases hbf : benF x.bend l j with
          | false =>
            have hbn : benF x.bend l (j + 1) = false := by rw [HBE.out, hbf]; rfl
            have HBN := Lib.hid hbn
            clear hbn hbf
            go_wp2_with fail
            go_roundw
            case rel => exact ⟨q + 1, j + 1, by omega, by omega, by go_num, by rw [HBN.out], hq.trans hqd⟩
            case measure => simp [intOf]; omega
          | true =>
            have hbn : benF x.bend l (j + 1) = btwB (v1 - v0) (-x.bend) x.bend := by rw [HBE.out, hbf]; rfl
            have HBN := Lib.hid hbn
            clear hbn hbf
            by_cases k1 : -x.bend ≤ v1 - v0
            · have d1 : decide (-x.bend ≤ v1 - v0) = true := decide_eq_true k1
              by_cases k2 : v1 - v0 ≤ x.bend
              · have d2 : decide (v1 - v0 ≤ x.bend) = true := decide_eq_true k2
                go_wp2_with fail
                go_roundw
                case rel => exact ⟨q + 1, j + 1, by omega, by omega, by go_num, by rw [HBN.out]; unfold btwB; rw [d1, d2]; rfl, hq.trans hqd⟩
                case measure => simp [intOf]; omega
              · have d2 : decide (v1 - v0 ≤ x.bend) = false := decide_eq_false k2
                go_wp2_with fail
                go_roundw
                case rel => exact ⟨q + 1, j + 1, by omega, by omega, by go_num, by rw [HBN.out]; unfold btwB; rw [d1, d2]; rfl, hq.trans hqd⟩
                case measure => simp [intOf]; omega
            · have d1 : decide (-x.bend ≤ v1 - v0) = false := decide_eq_false k1
              go_wp2_with fail
              go_roundw
              case rel => exact ⟨q + 1, j + 1, by omega, by omega, by go_num, by rw [HBN.out]; unfold btwB; rw [d1]; rfl, hq.trans hqd⟩
              case measure => simp [intOf]; omega
        · obtain rfl : q = n := by omega
          have hb1q : decide ((q : Int) < (q : Int)) = false := decide_eq_false (by omega)
          have hqj2 : q - 1 = j := by omega
          rw [hqj2] at HW
          have hGx := hGo.call (hq.below _)
          have hBx := hB.trans (hq.below w2.heap.size)
          have hCx := hC3.qt hq
          have hrx := hrow.qt hq
          have hgx : wx.cell? ⟨br, or + k, none⟩ = some (.slice (some ⟨ba, oa, none⟩) l.length cw) := by
            obtain ⟨q2, rfl⟩ := hq
            exact g1
          clear hX3 hC3 hrow g1 hGo hB hq
          go_wp2_with fail
          clear x0
          go_loopw [6, 9] (fun s6 s9 wy => ∃ i : Nat, i ≤ x.claims.length ∧ s9 = .int .i64 i ∧ s6 = .bool (benF x.bend l j && (x.claims.take i).all fun c => c.holds (atL l)) ∧ Below wx.heap.size wx wy) (fun _ s9 _ => x.claims.length - (intOf s9).toNat)
          case atStart => exact ⟨0, Nat.zero_le _, rfl, by simp, Below.refl _ _⟩
          case round =>
            rename World => wy
            obtain ⟨i, hi, rfl, rfl, hBy⟩ := hrel
            have hXy := hXx.call hBy
            have hCy := hCx.call hBy
            have hry := hrx.call hBy
            have hgy : wy.cell? ⟨br, or + k, none⟩ = some (.slice (some ⟨ba, oa, none⟩) l.length cw) := (cell_same (hBy.block br (by have := hBx.size; omega))).trans hgx
            have hGy := hGx.call hBy
            have hBz := bnx hBx hBy
            have x2 := hXy.cell 2
            cases hF : benF x.bend l j && (x.claims.take i).all fun c => c.holds (atL l) with
            | false =>
              have hT : isT x l = false := by
                rw [HW.out]
                rw [Bool.and_eq_false_iff] at hF ⊢
                refine hF.imp id fun hf => ?_
                rw [List.all_eq_false] at hf ⊢
                obtain ⟨c, hc, hcf⟩ := hf
                exact ⟨c, List.mem_of_mem_take hc, hcf⟩
              have HT := Lib.hid hT
              clear hT hF
              go_wp2_with fail
              go_roundw
              case rel =>
                refine ⟨k + 1, out, by omega, by go_num, ?_, hGy, hBz⟩
                rw [HF.out, HOUT.out, HT.out]
                simp
              case measure => simp [intOf]; omega
            | true =>
              have HF2 := Lib.hid hF
              clear hF
              by_cases hil : i < x.claims.length
              · have hb2 : decide ((i : Int) < (x.claims.length : Int)) = true := decide_eq_true (by omega)
                obtain ⟨gc, oc, rfl, -, hgc⟩ := cls_addr hCx (by omega)
                have htc : ∀ w', Below wy.heap.size wy w' → (TrC b1 #[.int .i64 x.points, .int .i64 x.bend, .slice (some ⟨gc, oc, none⟩) x.claims.length cx] gc (oc + i * 5) x.claims[i] br (or + k) (.slice (some ⟨ba, oa, none⟩) l.length cw)) w' := fun w' hb => ⟨hXy.call hb, cls_at (hCy.call hb) i hil, (cell_same (hb.block br (by have := hBz.size; omega))).trans hgy⟩
                have HTC := Lib.hid htc
                have hso : ∀ w', Below wy.heap.size wy w' → Calls Try.prog 41 #[(.agg #[.int .i64 x.claims[i].kind, .int .i64 x.claims[i].point, .int .i64 x.claims[i].other, .int .i64 x.claims[i].off, .int .i64 x.claims[i].err]), (.slice (some ⟨ba, oa, none⟩) l.length cw)] w' fun e w'' => e = .returned (.bool (x.claims[i].holds (atL l))) ∧ Below w'.heap.size w' w'' := fun w' hb => by
                  have hs := so_c (c := x.claims[i]) (hry.call hb) (P := x.points) (by rw [HN.out]; omega) (HOK.out.c _ (List.getElem_mem _)) HL9.out
                  unfold Cl.val at hs
                  exact hs
                have HSO := Lib.hid hso
                clear htc hso
                go_upto_region 15 with fail
                refine wp_region_mix2 (.pur 0 (.one 1 (.pur 2 (.pur 3 (.one 4 (.pur 5 (.pur 6 (.pur 7 (.one 8 (.act 9 (.pur 10 .fin))))))))))) 99 (TrC b1 #[.int .i64 x.points, .int .i64 x.bend, .slice (some ⟨gc, oc, none⟩) x.claims.length cx] gc (oc + i * 5) x.claims[i] br (or + k) (.slice (some ⟨ba, oa, none⟩) l.length cw)) (fun _ => True) (by kernel_rfl) (by kernel_rfl) rfl (by kernel_rfl) (HTC.out _ (((Qt.refl _).drewN 1).below _)) (fun wd hqd _ => ?_)
                refine mix_pur2 rfl (fun K hK => ?_)
                go_simp
                first | refine ⟨_, fun _ => rfl, hK _ ?_⟩ | refine hK _ ?_
                clear hK K
                refine mix_load2 rfl rfl rfl (.slice (some ⟨gc, oc, none⟩) x.claims.length cx) (fun w' h => by have h : (TrC b1 #[.int .i64 x.points, .int .i64 x.bend, .slice (some ⟨gc, oc, none⟩) x.claims.length cx] gc (oc + i * 5) x.claims[i] br (or + k) (.slice (some ⟨ba, oa, none⟩) l.length cw)) w' := h; have e0 := h.1.cell 2; go_simp) rfl ?_
                refine mix_pur2 rfl (fun K hK => ?_)
                go_simp
                first | refine ⟨_, fun _ => rfl, hK _ ?_⟩ | refine hK _ ?_
                clear hK K
                refine mix_pur2 rfl (fun K hK => ?_)
                go_simp
                first | refine ⟨_, fun _ => rfl, hK _ ?_⟩ | refine hK _ ?_
                clear hK K
                refine mix_load2 rfl rfl rfl (.agg #[.int .i64 x.claims[i].kind, .int .i64 x.claims[i].point, .int .i64 x.claims[i].other, .int .i64 x.claims[i].off, .int .i64 x.claims[i].err]) (fun w' h => by have h : (TrC b1 #[.int .i64 x.points, .int .i64 x.bend, .slice (some ⟨gc, oc, none⟩) x.claims.length cx] gc (oc + i * 5) x.claims[i] br (or + k) (.slice (some ⟨ba, oa, none⟩) l.length cw)) w' := h; obtain ⟨-, h, -⟩ := h; have e0 := h.1; have e1 := h.2.1; have e2 := h.2.2.1; have e3 := h.2.2.2.1; have e4 := h.2.2.2.2; go_simp) rfl ?_
                refine mix_pur2 rfl (fun K hK => ?_)
                go_simp
                first | refine ⟨_, fun _ => rfl, hK _ ?_⟩ | refine hK _ ?_
                clear hK K
                refine mix_pur2 rfl (fun K hK => ?_)
                go_simp
                first | refine ⟨_, fun _ => rfl, hK _ ?_⟩ | refine hK _ ?_
                clear hK K
                refine mix_pur2 rfl (fun K hK => ?_)
                go_simp
                first | refine ⟨_, fun _ => rfl, hK _ ?_⟩ | refine hK _ ?_
                clear hK K
                refine mix_load2 rfl rfl rfl (.slice (some ⟨ba, oa, none⟩) l.length cw) (fun w' h => by have h : (TrC b1 #[.int .i64 x.points, .int .i64 x.bend, .slice (some ⟨gc, oc, none⟩) x.claims.length cx] gc (oc + i * 5) x.claims[i] br (or + k) (.slice (some ⟨ba, oa, none⟩) l.length cw)) w' := h; have e0 := h.2.2; go_simp) rfl ?_
                refine mix_eff2 rfl false rfl (fun K hK => ?_)
                refine step_fn rfl rfl rfl ent41 rfl (by kernel_rfl) (HSO.out _ (hqd.below _)) ?_
                rintro e wy2 ⟨rfl, hy2⟩
                refine ⟨_, rfl, ?_⟩
                have z1 := bnx (hqd.below wy.heap.size) hy2
                refine hK _ _ (HTC.out _ z1) ?_
                clear hK K
                refine mix_pur2 rfl (fun K hK => ?_)
                go_simp
                first | refine ⟨_, fun _ => rfl, hK _ ?_⟩ | refine hK _ ?_
                clear hK K
                refine mix_done2 ?_
                go_wp2_with fail
                go_roundw
                case rel =>
                  refine ⟨i + 1, by omega, by go_num, ?_, bnx hBy z1⟩
                  have h2 := HF2.out
                  rw [Bool.and_eq_true] at h2
                  rw [List.take_succ_eq_append_getElem hil, List.all_append, h2.1, h2.2]
                  simp
                case measure => simp [intOf]; omega
              · obtain rfl : i = x.claims.length := by omega
                have hb2 : decide ((x.claims.length : Int) < (x.claims.length : Int)) = false := decide_eq_false (by omega)
                have hT : isT x l = true := by
                  rw [HW.out]
                  have h2 := HF2.out
                  rwa [List.take_length] at h2
                have HT := Lib.hid hT
                clear hT
                obtain ⟨vs, hv1, ho, hrows⟩ := hGy
                have hrr := hry.wide (A' := fun q => w.heap.size ≤ q ∧ u4.ownBlock ≠ some q) fun q hq _ => ⟨hq.1, fun e => by have := (ho.lt q e).1; have := hq.2; omega⟩
                obtain ⟨ao, co, rfl⟩ := own_slice ho
                have hoa := ho.alloc (.cells #[.slice (some ⟨ba, oa, none⟩) l.length cw] 27)
                have ha := arr_one wy 27 (.slice (some ⟨ba, oa, none⟩) l.length cw)
                have hsy := hBz.size
                go_wp2_with (at_builtin; go_loud (refine wpList_append_arr rfl _ _ 61 rfl 27 (.slice none 0 0) 1 24 Try.under61 Try.info27 rfl (by decide) (by decide) (by simp; omega) hoa rfl ha rfl rfl (one_slice _ _ _) (by omega) ?_; intro v2 w3 hown2 hT2))
                have hGn := gput hv1 hrows hrr hown2 hT2
                have hB3 : Below w2.heap.size w2 w3 := hT2.below hoa (hBz.alloc hsy _) (by simp; omega)
                go_roundw
                case rel =>
                  refine ⟨k + 1, _, by omega, by go_num, ?_, hGn, hB3⟩
                  rw [HF.out, HOUT.out, HT.out]
                  rfl
                case measure => simp [intOf]; omega
    · obtain rfl : k = R.length := by omega
      have hfin := HOUT.out
      rw [List.take_length, HRT.out] at hfin
      subst hfin
      go_wp2
      go_ret
      exact ⟨_, rfl, hGo.grid (fun k hk => hk) (fun k hk => by have := hB2.size; omega), bnx hB1 (bnx hB2 hB)⟩

end Go.Proofs.Ytgdifckmjdjcpaa
