/- EdgeFurrows: what its walk hands back; conditions: the argument reads as a list of numbers. -/
import Derived.Test.YtgdifckmjdjcpaaLFined
import Derived.Test.YtgdifckmjdjcpaaSin
import Derived.Test.YtgdifckmjdjcpaaTrm
import Derived.Test.YtgdifckmjdjcpaaSev
namespace Go.Proofs.Ytgdifckmjdjcpaa
open Go.RowKit

theorem encr_none {x : Edg} (hx : x.Ok) {l : List Fu} (hf : furX x.points l = 0) (hb : bndF x = none) {y : Int} (hy : 0 ≤ y ∧ y ≤ 30) : encrX x l y = ([], 12) := by
  unfold encrX
  rw [taken_none hx hf hb hy]
  rfl
theorem encr_some {x : Edg} (hx : x.Ok) {l : List Fu} (hf : furX x.points l = 0) {s : Bs} (hb : bndF x = some s) {y : Int} (hy : 0 ≤ y ∧ y ≤ 30) : encrX x l y = ((tkL l s y x.n).map verdE, 0) := by
  unfold encrX
  rw [taken_some hx hf hb hy]
  rfl
/-- The furrows that are taken in each truth, at a point. -/
def tkM (T : List (List Int)) (o : Option Fu) (p : Nat) : List Int := T.map fun t => tkF o (atL t p)
def spS (l : List Int) : Int × Int := l.foldl (fun r n => (min r.1 n, max r.2 n)) ((18 : Int), (0 : Int))
def cntP (l : List Int) : Nat := (l.filter fun d => decide (0 < d)).length
theorem spS_snoc (l : List Int) (d : Int) : spS (l ++ [d]) = (min (spS l).1 d, max (spS l).2 d) := by unfold spS; rw [List.foldl_append]; rfl
theorem cntP_snoc (l : List Int) (d : Int) : cntP (l ++ [d]) = if 0 < d then cntP l + 1 else cntP l := by
  unfold cntP
  rw [List.filter_append, List.length_append]
  by_cases h : 0 < d <;> simp [h]
theorem cntP_le (l : List Int) : cntP l ≤ l.length := List.length_filter_le _ _
theorem tkM_len (T : List (List Int)) (o : Option Fu) (p : Nat) : (tkM T o p).length = T.length := by simp [tkM]
theorem tkM_at {T : List (List Int)} {o : Option Fu} {p i : Nat} (hi : i < T.length) : (tkM T o p).take (i + 1) = (tkM T o p).take i ++ [tkF o (atL T[i] p)] := by
  rw [List.take_succ_eq_append_getElem (by rw [tkM_len]; exact hi)]
  simp [tkM]
theorem tkF_new {l : List Fu} {P : Int} (hl : ∀ f ∈ l, f.Ok P) {p y v : Int} : tkF (newG p y l) v = if 0 ≤ (seenS (-1) p y l).1 then max 0 (v - (seenS (-1) p y l).1) else 0 := by
  rw [seen_new fun f hf => (hl f hf).2.1.1]
  cases ho : newG p y l with
  | none => simp [tkF, seenO]
  | some f =>
    have h0 := (hl f (newG_mem ho)).2.2.1
    show max 0 (v - f.off) = if 0 ≤ f.off then max 0 (v - f.off) else 0
    rw [if_pos h0]
theorem verdM_eq {s a : Nat} (ha : 0 < a) : verdM (s : Int) (a : Int) = verdF s a := by
  unfold verdM verdF
  by_cases h1 : s = 0
  · subst h1
    rw [if_pos (by simp), if_neg (by omega), if_pos rfl]
  · rw [if_neg (by omega)]
    by_cases h2 : s = a
    · rw [if_pos (by omega), if_pos h2]
    · rw [if_neg (by omega), if_neg h2, if_neg h1]
/-- What is read of the spans and the verdicts. -/
def FrS (gt o : Nat) (V : Int × Int) (gv o2 : Nat) (e : Int) (w : World) : Prop := w.cell? ⟨gt, o, none⟩ = some (.int .i64 V.1) ∧ w.cell? ⟨gt, o + 1, none⟩ = some (.int .i64 V.2) ∧ w.cell? ⟨gv, o2, none⟩ = some (.int .i64 e)
theorem ent52 : Ent 52 := ⟨_, Try.func52, rfl, by kernel_rfl⟩

set_option maxRecDepth 100000 in
set_option maxHeartbeats 20000000 in
theorem edgeFurrows_c {A : Nat → Prop} {w : World} {v : Value} {l : List Int} (h : Ints A w v l) : Calls Try.prog 7 #[v] w fun e w' => e = .returned (.bool true) ∧ Below w.heap.size w w' := by
  obtain ⟨a0, c0, rfl, _, _⟩ := h.shape
  go_enter Try.func7, Try.ntmps7
  go_wp2_with fail
  refine (newHand_c h).mono ?_
  rintro e w1 ⟨rfl, hH1, hB1⟩
  have hsz1 := hH1.lt
  go_wp2_with fail
  refine (edgeOf_c hH1 (by omega) (pts := 3) (cl := 4) (by omega) (by omega)).mono ?_
  rintro e w2 ⟨⟨x, vx, rfl, hx, hx4, hx7, hO2⟩, ⟨k2, hk2, hH2⟩, hG2⟩
  have hB2 := bhand hB1 hG2 (Nat.le_refl _)
  obtain ⟨ax, cx, rfl⟩ := own_slice hO2
  obtain ⟨w3, hw3⟩ : ∃ w3, w3 = w2.alloc (.cells #[.int .i64 x.points, .int .i64 x.bend, .slice ax x.claims.length cx] 24) := ⟨_, rfl⟩
  obtain ⟨bx, hbx⟩ : ∃ b, b = w2.heap.size := ⟨_, rfl⟩
  have hX3 : Blk bx #[.int .i64 x.points, .int .i64 x.bend, .slice ax x.claims.length cx] 24 w3 := by rw [hw3, hbx]; exact Blk.new _ _ _
  have hB3 : Below w.heap.size w w3 := by rw [hw3]; exact bal2 hB2
  have hC3 : ClsM (fun q => w1.heap.size ≤ q) w3 (.slice ax x.claims.length cx) x.claims := by rw [hw3]; exact (hO2.cls).call ((Below.refl _ _).alloc (Nat.le_refl _) _)
  have hH3 : Hnd w3 w.heap.size k2 := by rw [hw3]; exact hH2.call ((Below.refl _ _).alloc (Nat.le_refl _) _)
  have hbw : w.heap.size < bx := by rw [hbx]; have := hG2.size; omega
  go_upto_region 3 with fail
  rw [← hw3, ← hbx]
  clear hw3 hbx hO2 hG2 hH1 hB1 hB2 hH2
  have c0 := hX3.cell 0
  have c1 := hX3.cell 1
  have c2 := hX3.cell 2
  go_wp2_with fail
  refine (furrowsOf_c hH3 (by omega) hx.p ax x.claims.length cx).mono ?_
  rintro e w4 ⟨⟨L, vf, rfl, hfx, hF4⟩, ⟨k4, hk4, hH4⟩, hG4⟩
  have hX4 := hX3.hand hG4 (by omega)
  have hC4 := Elems.only hC3 hG4 (by omega)
  have hB4 := bhand hB3 hG4 (Nat.le_refl _)
  obtain ⟨af, cf, rfl⟩ := own_slice hF4
  have hF4 : FusM (fun q => w3.heap.size ≤ q) w4 (.slice af L.length cf) L := hF4.fus
  have hz34 : w.heap.size < w3.heap.size := by have := hX3.lt; omega
  clear c0 c1 c2 hX3 hC3 hB3 hG4 hH3
  go_wp2_with fail
  refine (upto_c hH4 (by omega) 30 (by omega) (by omega)).mono ?_
  rintro e w5 ⟨⟨y, rfl, hy, hyb⟩, ⟨k5, hk5, hH5⟩, hG5⟩
  have hX5 := hX4.hand hG5 (by omega)
  have hC5 := Elems.only hC4 hG5 (by omega)
  have hF5 := Elems.only hF4 hG5 (by omega)
  have hB5 := bhand hB4 hG5 (Nat.le_refl _)
  clear hX4 hC4 hF4 hB4 hG5 hH4
  rcases bnd_cases hx with ⟨htn, hbn, -⟩ | ⟨s, hs, hbn, -⟩
  · have HE := Lib.hid (encr_none hx hfx hbn (y := y) (by omega))
    have HT := Lib.hid (taken_none hx hfx hbn (y := y) (by omega))
    have c0 := hX5.cell 0
    have c1 := hX5.cell 1
    have c2 := hX5.cell 2
    have hcon := truthsL_c hC5 hx hx4
    rw [htn] at hcon
    have HCON := Lib.hid hcon
    clear hcon
    go_wp2_with fail
    refine HCON.out.mono ?_
    rintro e w6 ⟨va, rfl, hA6, hS6⟩
    obtain ⟨aa, ca, rfl, -, -⟩ := hA6.shape
    have hX6 := hX5.call hS6
    have hC6 := hC5.call hS6
    have hF6 := hF5.call hS6
    have hB6 := bnx hB5 hS6
    clear c0 c1 c2 HCON hX5 hC5 hF5 hB5
    have c0 := hX6.cell 0
    have c1 := hX6.cell 1
    have c2 := hX6.cell 2
    have hcon := takens_c hC6 hF6 y
    rw [HT.out] at hcon
    have HCON := Lib.hid hcon
    clear hcon
    go_wp2_with fail
    refine HCON.out.mono ?_
    rintro e w7 ⟨vt, rfl, hT7, hS7⟩
    obtain ⟨at0, ct0, rfl, -, -⟩ := hT7.shape
    have hX7 := hX6.call hS7
    have hC7 := hC6.call hS7
    have hF7 := hF6.call hS7
    have hB7 := bnx hB6 hS7
    clear c0 c1 c2 HCON hX6 hC6 hF6 hB6
    have c0 := hX7.cell 0
    have c1 := hX7.cell 1
    have c2 := hX7.cell 2
    have hcon := encr_c hC7 hF7 y
    rw [HE.out] at hcon
    have HCON := Lib.hid hcon
    clear hcon
    go_wp2_with fail
    refine HCON.out.mono ?_
    rintro e w8 ⟨vn, rfl, hN8, hS8⟩
    obtain ⟨an, cn, rfl, -, -⟩ := hN8.shape
    go_wp2_with fail
    refine (surveyed_c _).mono ?_
    rintro e w9 ⟨rfl, hS9⟩
    go_wp2_with fail
    go_ret
    exact ⟨rfl, bnx (bnx hB7 hS8) hS9⟩
  · obtain ⟨n, hn⟩ : ∃ n, n = x.n := ⟨_, rfl⟩
    have hpn : x.points = (n : Int) := by have := hx.p; rw [hn]; unfold Edg.n; omega
    have hn3 : 1 ≤ n ∧ n ≤ 3 := by have := hx.p; omega
    have HE := Lib.hid (show encrX x L y = ((tkL L s y n).map verdE, 0) by rw [encr_some hx hfx hbn (y := y) (by omega), ← hn])
    have HT := Lib.hid (show takenX x L y = (tkL L s y n, 0) by rw [taken_some hx hfx hbn (y := y) (by omega), ← hn])
    have hTl : (truthsF x).length ≤ 1000 := by
      rw [← words_truths x]
      refine Nat.le_trans (List.length_filter_le _ _) ?_
      rw [← wordsL_words]
      exact (wordsL_len (Nat.le_refl _) x.n (by omega)).1
    have hT0 : 0 < (truthsF x).length := List.length_pos_iff.2 (bndF_some hbn)
    have hrowl : ∀ t ∈ truthsF x, t.length = n ∧ ∀ q < n, 0 ≤ atL t q ∧ atL t q ≤ 9 := fun t ht => by
      have h1 := mem_truthsF.1 ht
      refine ⟨by rw [hn]; exact h1.len, fun q hq => h1.reach q (by omega)⟩
    have hfok := (furX_zero.1 hfx).2.1
    have hval : ∀ p, p < n → ∀ o, o = newG (p : Int) y L → spS (tkM (truthsF x) o p) = tkE L s p y ∧ verdM (cntP (tkM (truthsF x) o p)) ((truthsF x).length) = verdE (tkE L s p y) := fun p hp o ho => by
      subst ho
      have h1 := taken_truths hs L (p := p) (by omega) y
      have h2 := encr_truths hs L (p := p) (by omega) y
      constructor
      · rw [← h1]
        refine span_from (by intro e; have e : (truthsF x).map (fun t => tkF (newG (p : Int) y L) (atL t p)) = [] := e; rw [List.map_eq_nil_iff] at e; rw [e] at hT0; simp at hT0) fun d hd => ?_
        obtain ⟨t, ht, rfl⟩ := List.mem_map.1 hd
        have h3 := (hrowl t ht).2 p hp
        refine ⟨tkF_nonneg _ _, ?_⟩
        rw [tkF_new hfok]
        split <;> omega
      · rw [verdM_eq hT0, ← h2]
        unfold cntP tkM
        rw [List.filter_map, List.length_map]
        rfl
    have hfld : ∀ p v : Int, tkF (newG p y L) v = if 0 ≤ (seenS (-1) p y L).1 then max 0 (v - (seenS (-1) p y L).1) else 0 := fun p v => tkF_new hfok
    have HRL := Lib.hid hrowl
    have HVAL := Lib.hid hval
    have HFLD := Lib.hid hfld
    have hfb : ∀ p : Int, -1 ≤ (seenS (-1) p y L).1 ∧ (seenS (-1) p y L).1 ≤ 9 := fun p => by
      rw [seen_new fun f hf => (hfok f hf).2.1.1]
      cases ho : newG p y L with
      | none => exact ⟨Int.le_refl _, by show (-1 : Int) ≤ 9; omega⟩
      | some f =>
        have h0 := (hfok f (newG_mem ho)).2.2
        show -1 ≤ f.off ∧ f.off ≤ 9
        omega
    have HFB := Lib.hid hfb
    have htc := truthsL_c hC5 hx hx4
    have HTC := Lib.hid htc
    clear hrowl hval hfld hfb hfok htc hn
    have c0 := hX5.cell 0
    have c1 := hX5.cell 1
    have c2 := hX5.cell 2
    rw [hpn] at c0
    rw [hpn] at HTC
    go_wp2_with fail
    refine HTC.out.mono ?_
    rintro e w6 ⟨va, rfl, hA6, hS6⟩
    obtain ⟨T, hT⟩ : ∃ T, T = truthsF x := ⟨_, rfl⟩
    rw [← hT] at hA6 hTl hT0 HVAL HRL
    clear hT
    obtain ⟨aa, ca, rfl, -, -⟩ := hA6.shape
    have hX6 := hX5.call hS6
    have hC6 := hC5.call hS6
    have hF6 := hF5.call hS6
    have hB6 := bnx hB5 hS6
    clear c0 c1 c2 HTC hX5 hC5 hF5 hB5
    have c0 := hX6.cell 0
    have c1 := hX6.cell 1
    have c2 := hX6.cell 2
    rw [hpn] at c0
    have hcon := takens_c hC6 hF6 y
    rw [HT.out, hpn] at hcon
    have HCON := Lib.hid hcon
    clear hcon
    go_wp2_with fail
    refine HCON.out.mono ?_
    rintro e w7 ⟨vt, rfl, hT7, hS7⟩
    obtain ⟨at0, ct0, rfl, -, -⟩ := hT7.shape
    have hX7 := hX6.call hS7
    have hC7 := hC6.call hS7
    have hF7 := hF6.call hS7
    have hA7 := hA6.call hS7
    have hB7 := bnx hB6 hS7
    clear c0 c1 c2 HCON hX6 hC6 hF6 hB6 hA6
    have c0 := hX7.cell 0
    have c1 := hX7.cell 1
    have c2 := hX7.cell 2
    rw [hpn] at c0
    have hcon := encr_c hC7 hF7 y
    rw [HE.out, hpn] at hcon
    have HCON := Lib.hid hcon
    clear hcon
    go_wp2_with fail
    refine HCON.out.mono ?_
    rintro e w8 ⟨vn, rfl, hN8, hS8⟩
    obtain ⟨an, cn, rfl, -, -⟩ := hN8.shape
    have hX8 := hX7.call hS8
    have hF8 := hF7.call hS8
    have hA8 := hA7.call hS8
    have hT8 := hT7.call hS8
    have hB8 := bnx hB7 hS8
    clear c0 c1 c2 HCON hX7 hC7 hF7 hB7 hA7 hT7 HE HT
    have c0 := hX8.cell 0
    rw [hpn] at c0
    have hl1 := tkL_len L s y n
    have hl2 : ((tkL L s y n).map verdE).length = n := by rw [List.length_map]; exact hl1
    rw [hl1, hl2]
    have hpl : ∀ p, p < n → ∀ (h1 : p < (tkL L s y n).length) (h2 : p < ((tkL L s y n).map verdE).length), (tkL L s y n)[p] = tkE L s p y ∧ ((tkL L s y n).map verdE)[p] = verdE (tkE L s p y) := fun p hp h1 h2 => by simp [tkL]
    have HPL := Lib.hid hpl
    have HPN := Lib.hid hpn
    have hde : ((T.length : Int) == 0) = false := by rw [beq_eq_false_iff_ne]; omega
    clear hpl
    go_wp2_with fail
    clear c0
    go_loopw [12] (fun vi wr => ∃ p : Nat, p ≤ n ∧ vi = .int .i64 p ∧ Below w8.heap.size w8 wr) (fun vi _ => n - (intOf vi).toNat)
    case atStart => exact ⟨0, Nat.zero_le _, rfl, Below.refl _ _⟩
    case round =>
      obtain ⟨p, hp, rfl, hBr⟩ := hrel
      have hXr := hX8.call hBr
      have c0 := hXr.cell 0
      rw [HPN.out] at c0
      by_cases hpn' : p < n
      · have hFr := hF8.call hBr
        have hAr := hA8.call hBr
        have hTr := hT8.call hBr
        have hNr := hN8.call hBr
        obtain ⟨o, ho⟩ : ∃ o, o = newG (p : Int) y L := ⟨_, rfl⟩
        have hv := HVAL.out p hpn' o ho
        have hf := fun v : Int => HFLD.out (p : Int) v
        have hfb := HFB.out (p : Int)
        have hsc := seen_c hFr (p : Int) y
        simp only [← ho] at hf
        obtain ⟨F, hF⟩ : ∃ F, F = (seenS (-1) (p : Int) y L).1 := ⟨_, rfl⟩
        simp only [← hF] at hf hfb hsc
        have HSC := Lib.hid hsc
        have HV := Lib.hid hv
        have HF := Lib.hid hf
        clear ho hF hv hf hsc
        go_wp2_with fail
        refine HSC.out.mono ?_
        rintro e wq ⟨rfl, hq⟩
        have hXq := hXr.qt hq
        have hAq := hAr.qt hq
        have hTq := hTr.qt hq
        have hNq := hNr.qt hq
        have hBq := hBr.trans (hq.below w8.heap.size)
        clear hXr hAr hTr hNr hFr HSC c0
        go_wp2_with fail
        go_loopw [14, 15, 16, 17] (fun s14 s15 s16 s17 wx => ∃ i : Nat, i ≤ T.length ∧ s17 = .int .i64 i ∧ s14 = .int .i64 (cntP ((tkM T o p).take i) : Nat) ∧ s15 = .int .i64 (spS ((tkM T o p).take i)).1 ∧ s16 = .int .i64 (spS ((tkM T o p).take i)).2 ∧ Qt wq wx) (fun _ _ _ s17 _ => T.length - (intOf s17).toNat)
        case atStart => exact ⟨0, Nat.zero_le _, rfl, rfl, rfl, rfl, Qt.refl _⟩
        case round =>
          rename World => wx
          obtain ⟨i, hi, rfl, rfl, rfl, rfl, hqx⟩ := hrel
          by_cases hil : i < T.length
          · have hb0 : decide ((i : Int) < (T.length : Int)) = true := decide_eq_true (by omega)
            obtain ⟨ba, oa, rfl, -, hba⟩ := hAq.addr (by omega)
            obtain ⟨aw, cw, g1, hrow⟩ := (hAq.qt hqx).row i hil
            have hrl := HRL.out T[i] (List.getElem_mem hil)
            have hat := tkM_at (o := o) (p := p) hil
            have hd := HF.out (atL T[i] p)
            obtain ⟨t, ht⟩ : ∃ t, t = T[i] := ⟨_, rfl⟩
            rw [← ht] at g1 hrow hrl hat hd
            have h9 := hrl.2 p hpn'
            obtain ⟨bw, ow, rfl, -, -⟩ := hrow.addr (by omega)
            have g2 := hrow.cell p (by omega)
            rw [← atL_at (by omega : p < t.length)] at g2
            obtain ⟨vv, hvv⟩ : ∃ vv, vv = atL t p := ⟨_, rfl⟩
            rw [← hvv] at g2 hat hd h9
            obtain ⟨d, hdd⟩ : ∃ d, d = tkF o vv := ⟨_, rfl⟩
            rw [← hdd] at hat hd
            have hs1 := spS_snoc ((tkM T o p).take i) d
            have hc1 := cntP_snoc ((tkM T o p).take i) d
            rw [← hat] at hs1 hc1
            have hcl : cntP ((tkM T o p).take i) ≤ 1000 := by
              have := cntP_le ((tkM T o p).take i)
              have := List.length_take_le i (tkM T o p)
              omega
            have HS1 := Lib.hid hs1
            have HC1 := Lib.hid hc1
            generalize hM : cntP ((tkM T o p).take i) = M at hcl HC1 ⊢
            generalize hU : spS ((tkM T o p).take i) = U at HS1 ⊢
            have m1 : (if d < U.1 then d else U.1) = min U.1 d := by omega
            have m2 : (if U.2 < d then d else U.2) = max U.2 d := by omega
            have bw1 : IntKind.i64.wrap ((M : Int) + 1) = (M : Int) + 1 := IntWalk.i64_in _ (by omega)
            have bw2 : IntKind.i64.wrap (vv - F) = vv - F := IntWalk.i64_in _ (by omega)
            have hpl2 : p < t.length := by omega
            clear hM hU hs1 hc1 hat hdd hvv ht hrl m1 m2
            by_cases hF0 : 0 ≤ F
            · have df : decide (F ≥ 0) = true := decide_eq_true hF0
              rw [if_pos hF0] at hd
              have m0 : (if 0 < vv - F then vv - F else 0) = d := by omega
              by_cases hd0 : 0 < d
              · have dd : decide (d > 0) = true := decide_eq_true hd0
                rw [if_pos hd0] at HC1
                have HDV := Lib.hid (show d = vv - F by omega)
                clear hd
                go_wp2_with fail
                go_roundw
                case rel => exact ⟨i + 1, by omega, by go_num, by rw [HC1.out]; go_num, by have := HDV.out; rw [HS1.out]; refine congrArg (Value.int IntKind.i64) ?_; show _ = min U.1 _; omega, by have := HDV.out; rw [HS1.out]; refine congrArg (Value.int IntKind.i64) ?_; show _ = max U.2 _; omega, hqx⟩
                case measure => simp [intOf]; omega
              · have dd : decide (d > 0) = false := decide_eq_false hd0
                rw [if_neg hd0] at HC1
                obtain rfl : d = 0 := by omega
                clear hd
                go_wp2_with fail
                go_roundw
                case rel => exact ⟨i + 1, by omega, by go_num, by rw [HC1.out], by rw [HS1.out]; refine congrArg (Value.int IntKind.i64) ?_; show _ = min U.1 _; omega, by rw [HS1.out]; refine congrArg (Value.int IntKind.i64) ?_; show _ = max U.2 _; omega, hqx⟩
                case measure => simp [intOf]; omega
            · have df : decide (F ≥ 0) = false := decide_eq_false hF0
              rw [if_neg hF0] at hd
              subst hd
              rw [if_neg (by omega)] at HC1
              go_wp2_with fail
              go_roundw
              case rel => exact ⟨i + 1, by omega, by go_num, by rw [HC1.out], by rw [HS1.out]; refine congrArg (Value.int IntKind.i64) ?_; show _ = min U.1 _; omega, by rw [HS1.out]; refine congrArg (Value.int IntKind.i64) ?_; show _ = max U.2 _; omega, hqx⟩
              case measure => simp [intOf]; omega
          · obtain rfl : i = T.length := by omega
            have hb0 : decide ((T.length : Int) < (T.length : Int)) = false := decide_eq_false (by omega)
            have htl : (tkM T o p).take T.length = tkM T o p := by rw [← tkM_len T o p, List.take_length]
            rw [htl, HV.out.1]
            obtain ⟨V, hV⟩ : ∃ V, V = tkE L s p y := ⟨_, rfl⟩
            have hv2 := HV.out.2
            rw [← hV] at hv2 ⊢
            have hp2 := HPL.out p hpn' (by rw [hl1]; exact hpn') (by rw [hl2]; exact hpn')
            rw [← hV] at hp2
            obtain ⟨gt, ot, rfl, -, hgt⟩ := rgs_addr hTq (by rw [hl1]; omega)
            obtain ⟨gv, ov, rfl, -, hgv, -⟩ := hNq.addr (by rw [hl2]; omega)
            have hfr : ∀ w', Below wx.heap.size wx w' → (FrS gt (ot + p * 2) V gv (ov + p) (verdE V)) w' := fun w' hb => by
              have h1 := rgs_at ((hTq.qt hqx).call hb) p (by rw [hl1]; exact hpn')
              have h2 := ((hNq.qt hqx).call hb).cell p (by rw [hl2]; exact hpn')
              rw [hp2.1] at h1
              rw [hp2.2] at h2
              exact ⟨h1.1, h1.2, h2⟩
            have HFR := Lib.hid hfr
            have hvd : ∀ w', Calls Try.prog 53 #[.int .i64 (cntP (tkM T o p) : Nat), .int .i64 (T.length : Nat)] w' fun e w'' => e = .returned (.int .i64 (verdE V)) ∧ Qt w' w'' := fun w' => by rw [← hv2]; exact verdictM_c _ _ w'
            have HVD := Lib.hid hvd
            clear hfr hvd hv2 hp2 hV
            go_upto_region 26 with fail
            refine wp_region_mix2 (.pur 0 (.pur 1 (.pur 2 (.one 3 (.pur 4 (.pur 5 (.act 6 (.pur 7 (.pur 8 (.pur 9 (.pur 10 (.pur 11 (.one 12 (.pur 13 (.pur 14 (.pur 15 (.act 16 (.pur 17 (.pur 18 .fin))))))))))))))))))) 99 (FrS gt (ot + p * 2) V gv (ov + p) (verdE V)) (fun _ => True) (by kernel_rfl) (by kernel_rfl) rfl (by kernel_rfl) (HFR.out _ (((Qt.refl _).drewN 1).below _)) (fun wd hqd _ => ?_)
            refine mix_pur2 rfl (fun K hK => ?_)
            go_simp
            first | refine ⟨_, fun _ => rfl, hK _ ?_⟩ | refine hK _ ?_
            clear hK K
            refine mix_pur2 rfl (fun K hK => ?_)
            go_simp
            first | refine ⟨_, fun _ => rfl, hK _ ?_⟩ | refine hK _ ?_
            clear hK K
            refine mix_pur2 rfl (fun K hK => ?_)
            go_simp
            first | refine ⟨_, fun _ => rfl, hK _ ?_⟩ | refine hK _ ?_
            clear hK K
            refine mix_load2 rfl rfl rfl (.agg #[.int .i64 V.1, .int .i64 V.2]) (fun w' h => by have h : (FrS gt (ot + p * 2) V gv (ov + p) (verdE V)) w' := h; have e0 := h.1; have e1 := h.2.1; go_simp) rfl ?_
            refine mix_pur2 rfl (fun K hK => ?_)
            go_simp
            first | refine ⟨_, fun _ => rfl, hK _ ?_⟩ | refine hK _ ?_
            clear hK K
            refine mix_pur2 rfl (fun K hK => ?_)
            go_simp
            first | refine ⟨_, fun _ => rfl, hK _ ?_⟩ | refine hK _ ?_
            clear hK K
            refine mix_eff2 rfl false rfl (fun K hK => ?_)
            refine step_fn rfl rfl rfl ent52 rfl (by kernel_rfl) (ofr_c V.1 V.2 _) ?_
            rintro e wy ⟨rfl, hy⟩
            refine ⟨_, rfl, ?_⟩
            have z1 := bnx (hqd.below wx.heap.size) hy
            refine hK _ _ (HFR.out _ z1) ?_
            clear hK K
            refine mix_pur2 rfl (fun K hK => ?_)
            go_simp
            first | refine ⟨_, fun _ => rfl, hK _ ?_⟩ | refine hK _ ?_
            clear hK K
            refine mix_pur2 rfl (fun K hK => ?_)
            go_simp
            first | refine ⟨_, fun _ => rfl, hK _ ?_⟩ | refine hK _ ?_
            clear hK K
            refine mix_pur2 rfl (fun K hK => ?_)
            go_simp
            first | refine ⟨_, fun _ => rfl, hK _ ?_⟩ | refine hK _ ?_
            clear hK K
            refine mix_pur2 rfl (fun K hK => ?_)
            go_simp
            first | refine ⟨_, fun _ => rfl, hK _ ?_⟩ | refine hK _ ?_
            clear hK K
            refine mix_pur2 rfl (fun K hK => ?_)
            go_simp
            first | refine ⟨_, fun _ => rfl, hK _ ?_⟩ | refine hK _ ?_
            clear hK K
            refine mix_loadg2 rfl rfl (.int .i64 (verdE V)) (by go_simp) (fun w' h => by have h : (FrS gt (ot + p * 2) V gv (ov + p) (verdE V)) w' := h; have e0 := h.2.2; go_simp) rfl ?_
            refine mix_pur2 rfl (fun K hK => ?_)
            go_simp
            first | refine ⟨_, fun _ => rfl, hK _ ?_⟩ | refine hK _ ?_
            clear hK K
            refine mix_pur2 rfl (fun K hK => ?_)
            go_simp
            first | refine ⟨_, fun _ => rfl, hK _ ?_⟩ | refine hK _ ?_
            clear hK K
            refine mix_pur2 rfl (fun K hK => ?_)
            go_simp
            first | refine ⟨_, fun _ => rfl, hK _ ?_⟩ | refine hK _ ?_
            clear hK K
            refine mix_eff2 rfl false rfl (fun K hK => ?_)
            go_simp
            refine (HVD.out _).mono ?_
            rintro e wz ⟨rfl, hz⟩
            have z2 := bnx z1 (hz.below _)
            refine hK _ _ (HFR.out _ z2) ?_
            clear hK K
            refine mix_pur2 rfl (fun K hK => ?_)
            go_simp
            first | refine ⟨_, fun _ => rfl, hK _ ?_⟩ | refine hK _ ?_
            clear hK K
            refine mix_pur2 rfl (fun K hK => ?_)
            go_simp
            first | refine ⟨_, fun _ => rfl, hK _ ?_⟩ | refine hK _ ?_
            clear hK K
            refine mix_done2 ?_
            go_wp2_with fail
            go_roundw
            case rel => exact ⟨p + 1, by omega, by go_num, bnx hBq (bnx (hqx.below _) z2)⟩
            case measure => simp [intOf]; omega
      · obtain rfl : p = n := by omega
        go_wp2_with fail
        refine (surveyed_c _).mono ?_
        rintro e w9 ⟨rfl, hS9⟩
        go_wp2_with fail
        go_ret
        exact ⟨rfl, bnx (bnx hB8 hBr) hS9⟩

end Go.Proofs.Ytgdifckmjdjcpaa
