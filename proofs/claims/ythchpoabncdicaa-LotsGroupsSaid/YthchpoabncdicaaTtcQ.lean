/- The trade of the program and the theory of trading, in plain words; conditions: up to four places. -/
import Derived.Test.YthchpoabncdicaaTtcP
import Derived.Test.YthchpoabncdicaaParP
namespace Go.Proofs.Ythchpoabncdicaa
open Go.RowKit

def chk3 : Bool := (List.range 5).all fun n => (List.range 4).all fun a => (List.range 4).all fun b => (List.range 4).all fun c => (List.range 4).all fun d =>
  !((List.range n).all fun i => decide (four a b c d i < n)) || (List.range n).all fun v => !(cyc (four a b c d) n v) || (cyc (four a b c d) n (four a b c d v) && (List.range n).all fun w => !(cyc (four a b c d) n w) || !(decide (four a b c d v = four a b c d w)) || decide (v = w))
set_option maxRecDepth 1000000 in
theorem chk3_ok : chk3 = true := by decide +kernel
theorem cyc_next {p : Nat → Nat} {n : Nat} (hn : n ≤ 4) (h : ∀ i, i < n → p i < n) {v : Nat} (hv : v < n) (hc : cyc p n v = true) :
    cyc p n (p v) = true ∧ ∀ w, w < n → cyc p n w = true → p v = p w → v = w := by
  have e := all_range chk3_ok (show n < 5 by omega)
  obtain ⟨f, hf⟩ : ∃ f, f = four (if 0 < n then p 0 else 0) (if 1 < n then p 1 else 0) (if 2 < n then p 2 else 0) (if 3 < n then p 3 else 0) := ⟨_, rfl⟩
  have g : ∀ i, i < n → p i = f i := by
    intro i hi
    have : i = 0 ∨ i = 1 ∨ i = 2 ∨ i = 3 := by omega
    rw [hf]
    rcases this with rfl | rfl | rfl | rfl <;> simp [four, hi]
  have l : ∀ i, (if i < n then p i else 0) < 4 := by
    intro i
    split
    · have := h i ‹_›; omega
    · omega
  have e2 := all_range (all_range (all_range (all_range e (l 0)) (l 1)) (l 2)) (l 3)
  rw [← hf] at e2
  have h2 : ((List.range n).all fun i => decide (f i < n)) = true := by
    rw [List.all_eq_true]
    intro i hi
    have hi : i < n := by simpa using hi
    rw [← g i hi]
    simpa using h i hi
  rw [h2] at e2
  simp only [Bool.not_true, Bool.false_or] at e2
  have gc : ∀ w, w < n → cyc f n w = cyc p n w := fun w hw => (cyc_congr (T := fun i => i < n) h g hw).symm
  have e3 := all_range e2 hv
  rw [gc v hv, hc, ← g v hv, gc _ (h v hv)] at e3
  simp only [Bool.not_true, Bool.false_or, Bool.and_eq_true] at e3
  refine ⟨e3.1, fun w hw hcw he => ?_⟩
  have e4 := all_range e3.2 hw
  rw [gc w hw, hcw, ← g w hw, he] at e4
  simpa using e4

theorem tSteps_out (order : List Int) (p : Nat → Nat) (n m : Nat) (out : List Int) : ∀ k j, k ≤ out.length → j < out.length →
    (tSteps order p n m out k).1.getD j 0 = if j < k ∧ hasB m j = true ∧ cyc p n j = true then order.getD (p j) 0 else out.getD j 0
  | 0, j, _, _ => by simp [tSteps]
  | k + 1, j, hk, hj => by
    have ih := tSteps_out order p n m out k j (by omega) hj
    have hl := tSteps_len order p n m out k
    rw [tSteps_succ, tStep]
    by_cases hc : hasB m k = true ∧ cyc p n k = true
    · rw [if_pos hc]
      by_cases e : k = j
      · subst e
        rw [if_pos ⟨by omega, hc⟩]
        simp only [List.getD_eq_getElem?_getD]
        rw [List.getElem?_set_self (by omega)]
        rfl
      · simp only [List.getD_eq_getElem?_getD, List.getElem?_set_ne e] at ih ⊢
        rw [ih]
        by_cases h1 : j < k
        · simp only [h1, show j < k + 1 by omega, true_and]
        · rw [if_neg (fun h => h1 h.1), if_neg (fun h => by omega)]
    · rw [if_neg hc, ih]
      by_cases h1 : j < k
      · simp only [h1, show j < k + 1 by omega, true_and]
      · rw [if_neg (fun h => h1 h.1), if_neg (fun h => by
          have : j = k := by omega
          subst this
          exact hc h.2)]
theorem getD_placeOf {l : List Int} {x : Int} (hn : l.Nodup) (hx : x ∈ l) : l.getD (placeOf l x).toNat 0 = x := by
  obtain ⟨i, hi, rfl⟩ := List.getElem_of_mem hx
  rw [placeOf_at hn hi]
  simp [hi]

/-- How much v likes what u had first. -/
def rkF (vs : List Vil) (order : List Int) (v u : Nat) : Nat := (rk vs v (order.getD u 0)).toNat

/-- The first of those that are still there that v likes: no one there is liked more. -/
theorem ptV_best {vs : List Vil} {order : List Int} {m v u : Nat} (hp : PermOf order.length order) (hv : v < vs.length) (hl : PermOf order.length vs[v].likes) (hu : u < order.length) (hb : hasB m u = true) :
    rkF vs order v (ptV vs order m v) ≤ rkF vs order v u := by
  have h2 : (vs.getD v ⟨0, 0, []⟩).likes = vs[v].likes := by simp [hv]
  have hmem : ∀ x, x ∈ vs[v].likes ↔ x ∈ order := fun x => by rw [hl.mem, hp.mem]
  have hou : order.getD u 0 = order[u] := by simp [hu]
  have hum : order[u] ∈ vs[v].likes := (hmem _).2 (List.getElem_mem hu)
  have hin := ptV_in (m := m) hp hv hl ⟨u, hu, hb⟩
  rw [ptV] at hin ⊢
  split
  · rename_i x hx
    rw [h2] at hx
    have h3 := first_le hl.nodup (x := order[u]) hx hum (by rw [placeOf_at hp.nodup hu]; simpa using hb)
    rw [rkF, rkF, getD_placeOf hp.nodup ((hmem x).1 h3.1), rk_at hv, rk_at hv, hou]
    have h4 := (placeOf_nonneg vs[v].likes x).2 h3.1
    omega
  · rename_i hx
    rw [List.find?_eq_none] at hx
    rw [h2] at hx
    have := hx _ hum
    rw [placeOf_at hp.nodup hu] at this
    exact absurd (by simpa using hb) this

structure TInv (vs : List Vil) (order : List Int) (t m : Nat) (out : List Int) (p r : Nat → Nat) : Prop where
  m16 : m < 16
  mlt : ∀ j, hasB m j = true → j < order.length
  ol : out.length = order.length
  lt : ∀ v, v < order.length → hasB m v = false → p v < order.length ∧ hasB m (p v) = false ∧ r (p v) = r v ∧ r v < t ∧ out.getD v 0 = order.getD (p v) 0
  best : ∀ v u, v < order.length → u < order.length → hasB m v = false → rkF vs order v u < rkF vs order v (p v) → hasB m u = false ∧ r u < r v
  inj : ∀ v w, v < order.length → w < order.length → hasB m v = false → hasB m w = false → p v = p w → v = w

theorem TInv.step {vs : List Vil} {order : List Int} (h4 : order.length ≤ 4) (hv : vs.length = order.length) (hp : PermOf order.length order) (hlk : ∀ v ∈ vs, PermOf order.length v.likes)
    {t m : Nat} {out : List Int} {p r : Nat → Nat} (h : TInv vs order t m out p r) (h0 : m ≠ 0) :
    (∃ p' r', TInv vs order (t + 1) (tSteps order (ptV vs order m) order.length m out order.length).2 (tSteps order (ptV vs order m) order.length m out order.length).1 p' r') ∧
      popc (tSteps order (ptV vs order m) order.length m out order.length).2 < popc m := by
  have hne : ∃ u, u < order.length ∧ hasB m u = true := by
    by_cases hc : ∀ j, j < 4 → hasB m j = false
    · exact absurd ((hasB_zero m h.m16).2 hc) h0
    · obtain ⟨j, hj⟩ := Classical.not_forall.1 hc
      have : hasB m j = true := by
        cases hb : hasB m j
        · exact absurd (fun _ => hb) hj
        · rfl
      exact ⟨j, h.mlt j this, this⟩
  have hn0 : 0 < order.length := by obtain ⟨u, hu, _⟩ := hne; omega
  have hPl : ∀ i, ptV vs order m i < order.length := fun i => ptV_lt vs order m i hn0 h.mlt
  have hlv : ∀ v (a : v < vs.length), PermOf order.length vs[v].likes := fun v a => hlk _ (List.getElem_mem a)
  have hPin : ∀ v, v < order.length → hasB m (ptV vs order m v) = true := fun v hvl => ptV_in hp (by omega) (hlv v (by omega)) hne
  have hPb : ∀ v u, v < order.length → u < order.length → hasB m u = true → rkF vs order v (ptV vs order m v) ≤ rkF vs order v u := fun v u hvl hu hb => ptV_best hp (by omega) (hlv v (by omega)) hu hb
  obtain ⟨hm16, hmask⟩ := tSteps_mask order (ptV vs order m) order.length h.m16 out order.length h4
  have hout := fun j hj => tSteps_out order (ptV vs order m) order.length m out order.length j (by have := h.ol; omega) hj
  have hlen := tSteps_len order (ptV vs order m) order.length m out order.length
  generalize tSteps order (ptV vs order m) order.length m out order.length = s at *
  generalize ptV vs order m = P at *
  have hcn := fun v (hvl : v < order.length) (hc : cyc P order.length v = true) => cyc_next h4 (fun i _ => hPl i) hvl hc
  have hM : ∀ v, v < order.length → (hasB s.2 v = false ↔ hasB m v = false ∨ cyc P order.length v = true) := by
    intro v hvl
    rw [hmask v (by omega)]
    simp only [hvl, decide_true, Bool.true_and]
    cases hasB m v <;> cases cyc P order.length v <;> simp
  refine ⟨⟨fun v => if hasB m v then P v else p v, fun v => if hasB m v then t else r v, ?_⟩, ?_⟩
  · refine ⟨hm16, fun j hj => ?_, by rw [hlen, h.ol], fun v hvl hb => ?_, fun v u hvl hu hb hr => ?_, fun v w hvl hwl hbv hbw he => ?_⟩
    · by_cases hj4 : j < 4
      · rw [hmask j hj4] at hj
        simp only [Bool.and_eq_true] at hj
        exact h.mlt j hj.1
      · have : s.2.testBit j = false := Nat.testBit_lt_two_pow (Nat.lt_of_lt_of_le hm16 (Nat.pow_le_pow_right (n := 2) (by omega) (show 4 ≤ j by omega)))
        rw [hasB, this] at hj
        simp at hj
    · rw [hout v (by have := h.ol; omega)]
      cases hbm : hasB m v with
      | false =>
        obtain ⟨a1, a2, a3, a4, a5⟩ := h.lt v hvl hbm
        simp only [a2, Bool.false_eq_true, if_false, false_and, and_false]
        exact ⟨a1, (hM _ a1).2 (.inl a2), a3, by omega, a5⟩
      | true =>
        have hc := ((hM v hvl).1 hb).resolve_left (by rw [hbm]; simp)
        simp only [hPin v hvl, hc, hvl, if_true, and_self]
        exact ⟨hPl v, (hM _ (hPl v)).2 (.inr (hcn v hvl hc).1), trivial, by omega, trivial⟩
    · cases hbm : hasB m v with
      | false =>
        rw [hbm] at hr
        simp only [Bool.false_eq_true, if_false] at hr ⊢
        obtain ⟨b1, b2⟩ := h.best v u hvl hu hbm hr
        rw [b1]
        exact ⟨(hM u hu).2 (.inl b1), b2⟩
      | true =>
        rw [hbm] at hr
        simp only [if_true] at hr ⊢
        have hbu : hasB m u = false := by
          cases hc : hasB m u with
          | false => rfl
          | true => have := hPb v u hvl hu hc; omega
        rw [hbu]
        exact ⟨(hM u hu).2 (.inl hbu), (h.lt u hu hbu).2.2.2.1⟩
    · cases hbm : hasB m v with
      | false =>
        cases hbn : hasB m w with
        | false =>
          rw [hbm, hbn] at he
          exact h.inj v w hvl hwl hbm hbn he
        | true =>
          rw [hbm, hbn] at he
          simp only [Bool.false_eq_true, if_false, if_true] at he
          have h1 := (h.lt v hvl hbm).2.1
          rw [he, hPin w hwl] at h1
          exact absurd h1 (by simp)
      | true =>
        have hcv := ((hM v hvl).1 hbv).resolve_left (by rw [hbm]; simp)
        cases hbn : hasB m w with
        | false =>
          rw [hbm, hbn] at he
          simp only [Bool.false_eq_true, if_false, if_true] at he
          have h1 := (h.lt w hwl hbn).2.1
          rw [← he, hPin v hvl] at h1
          exact absurd h1 (by simp)
        | true =>
          rw [hbm, hbn] at he
          have hcw := ((hM w hwl).1 hbw).resolve_left (by rw [hbn]; simp)
          exact (hcn v hvl hcv).2 w hwl hcw he
  · have hpc : popc m ≤ 4 := by
      rw [popc]
      exact Nat.le_trans (List.length_filter_le _ _) (by simp)
    have hpl : popc m ≤ order.length := by
      have : ∀ m, m < 16 → ∀ n, n < 5 → (∀ j, j < 4 → hasB m j = true → j < n) → popc m ≤ n := by decide +kernel
      exact this m h.m16 _ (by omega) (fun j _ hj => h.mlt j hj)
    obtain ⟨v, hv4, hbv, hcv⟩ := cyc_some h.m16 h0 (p := P) (fun i _ => Nat.lt_of_lt_of_le (hPl i) h4) (fun i _ hi => hPin i (h.mlt i hi)) (n := order.length) (by omega)
    have hvl := h.mlt v hbv
    refine popc_less m h.m16 s.2 hm16 (fun j hj hb => ?_) ⟨v, hv4, hbv, (hM v hvl).2 (.inr hcv)⟩
    rw [hmask j hj] at hb
    simp only [Bool.and_eq_true] at hb
    exact hb.1

theorem TInv.run {vs : List Vil} {order : List Int} (h4 : order.length ≤ 4) (hv : vs.length = order.length) (hp : PermOf order.length order) (hlk : ∀ v ∈ vs, PermOf order.length v.likes) :
    ∀ (k t m : Nat) (out : List Int) (p r : Nat → Nat), TInv vs order t m out p r → popc m ≤ k → ∃ t' p' r', TInv vs order t' 0 (tradeN vs order k m out) p' r'
  | 0, t, m, out, p, r, h, hk => by
    by_cases h0 : m = 0
    · subst h0; exact ⟨t, p, r, h⟩
    · have := popc_pos m h.m16 h0; omega
  | k + 1, t, m, out, p, r, h, hk => by
    rw [tradeN]
    by_cases h0 : m = 0
    · subst h0; rw [if_pos rfl]; exact ⟨t, p, r, h⟩
    · rw [if_neg h0]
      obtain ⟨⟨p', r', h'⟩, hlt⟩ := h.step h4 hv hp hlk h0
      exact TInv.run h4 hv hp hlk k (t + 1) _ _ p' r' h' (by omega)

/-- What is traded, as the theory of trading has it. -/
theorem trade_ttc {vs : List Vil} {order : List Int} (h4 : order.length ≤ 4) (hv : vs.length = order.length) (hp : PermOf order.length order) (hlk : ∀ v ∈ vs, PermOf order.length v.likes) :
    ∃ p r, Ttc order.length (rkF vs order) p r ∧ (tradeF vs order).length = order.length ∧ ∀ v, v < order.length → (tradeF vs order).getD v 0 = order.getD (p v) 0 := by
  have hall : ∀ j, hasB (allB order.length) j = decide (j < order.length) := by
    intro j
    by_cases hj : j < 4
    · exact allB_has _ h4 j hj
    · have : (allB order.length).testBit j = false := Nat.testBit_lt_two_pow (Nat.lt_of_lt_of_le (allB_lt h4) (Nat.pow_le_pow_right (n := 2) (by omega) (show 4 ≤ j by omega)))
      rw [hasB, this]
      simp; omega
  have h0 : TInv vs order 0 (allB order.length) (List.replicate order.length 0) id id := by
    refine ⟨allB_lt h4, fun j hj => by rw [hall] at hj; simpa using hj, by simp, fun v hvl hb => ?_, fun v u hvl hu hb => ?_, fun v w hvl hwl hb => ?_⟩ <;>
    · rw [hall] at hb; simp [hvl] at hb
  obtain ⟨t, p, r, h⟩ := TInv.run h4 hv hp hlk order.length 0 _ _ _ _ h0 (by rw [popc_all _ h4]; exact Nat.le_refl _)
  have hz : ∀ j, hasB 0 j = false := fun j => by simp [hasB]
  exact ⟨p, r, ⟨fun v hvl => (h.lt v hvl (hz v)).1, fun v w hvl hwl he => h.inj v w hvl hwl (hz v) (hz w) he, fun v hvl => (h.lt v hvl (hz v)).2.2.1, fun v u hvl hu hr => (h.best v u hvl hu (hz v) hr).2⟩, h.ol, fun v hvl => (h.lt v hvl (hz v)).2.2.2.2⟩
theorem trade_perm {vs : List Vil} {order : List Int} (h4 : order.length ≤ 4) (hv : vs.length = order.length) (hp : PermOf order.length order) (hlk : ∀ v ∈ vs, PermOf order.length v.likes) : PermOf order.length (tradeF vs order) := by
  obtain ⟨p, r, ht, hl, hg⟩ := trade_ttc h4 hv hp hlk
  have hgd : ∀ v (a : v < (tradeF vs order).length), (tradeF vs order)[v] = order.getD (p v) 0 := fun v a => by
    rw [← hg v (by omega), List.getD_eq_getElem?_getD, List.getElem?_eq_getElem a]; rfl
  have hog : ∀ k, k < order.length → order.getD k 0 ∈ order := fun k hk => by
    rw [List.getD_eq_getElem?_getD, List.getElem?_eq_getElem hk]; exact List.getElem_mem hk
  rw [permOf_iff]
  refine ⟨hl, fun x hx => ?_, ?_⟩
  · obtain ⟨v, hv', rfl⟩ := List.getElem_of_mem hx
    rw [hgd v hv']
    exact (hp.mem _).1 (hog _ (ht.lt v (by omega)))
  · rw [List.nodup_iff_pairwise_ne, List.pairwise_iff_getElem]
    intro i j hi hj hij e
    rw [hgd i hi, hgd j hj] at e
    have := ht.inj i j (by omega) (by omega) (perm_inj hp (ht.lt i (by omega)) (ht.lt j (by omega)) e)
    omega
theorem rkF_inj {vs : List Vil} {order : List Int} (hv : vs.length = order.length) (hp : PermOf order.length order) (hlk : ∀ v ∈ vs, PermOf order.length v.likes) : RkInj order.length (rkF vs order) := by
  intro v u w hvl hu hw he
  have hl := hlk _ (List.getElem_mem (show v < vs.length by omega))
  have hm : ∀ k (a : k < order.length), order[k] ∈ (vs[v]'(by omega)).likes := fun k a => (hl.mem _).2 ((hp.mem _).1 (List.getElem_mem a))
  have a1 := (placeOf_nonneg _ _).2 (hm u hu)
  have a2 := (placeOf_nonneg _ _).2 (hm w hw)
  simp only [rkF, rk_at (show v < vs.length by omega), show order.getD u 0 = order[u] by simp [hu], show order.getD w 0 = order[w] by simp [hw]] at he
  have := placeOf_inj hl.nodup (hm u hu) (hm w hw) (by omega)
  exact (List.getElem_inj hp.nodup).1 this

end Go.Proofs.Ythchpoabncdicaa
