/- Plain laws and contracts about commons, merged (Next1, LNext, LastP, O1, Ord, SwP, LSwaps, LastS, RF1, RF2, RF3); conditions: as said at each. -/
import Derived.Test.YtmlikgjfpmjdcaaDoorB3
/- The contract of Next (lots) at valid commons; conditions: at most 99 places. -/
namespace Go.Proofs.YtmlikgjfpmjdcaaDoor
open Go.RowKit

def nxV : Option Nat → Int
  | some i => i
  | none => 0
def nxE : Option Nat → Int
  | some _ => 0
  | none => 11

theorem placesErr_of {c : Com} (hok : c.Ok 4) {m : Nat} (hm : m ≤ 99) : placesErrE c (m : Int) = 0 := by
  rw [placesErrE, if_pos ((checkE_zero c).2 hok), if_pos]
  simp [btw]; omega

set_option maxRecDepth 100000 in
set_option maxHeartbeats 1000000 in
theorem nextF_c {A : Nat → Prop} {w : World} {vm vv : Value} {c : Com} (h : Cm A w vm vv c) (hok : c.Ok 4) (m : Nat) (hm : m ≤ 99) :
    Calls Tryd.prog 8 #[.agg #[vm, vv], .int .i64 m] w fun e w' => e = .returned (.tuple #[.int .i64 (nxV (nextO c.villages (allotN c.villages m) c.villages.length)), .int .i64 (nxE (nextO c.villages (allotN c.villages m) c.villages.length))]) ∧ Below w.heap.size w w' := by
  obtain ⟨am, cpm, rfl, _, _⟩ := h.1.shape
  obtain ⟨av, cpv, rfl, _, _⟩ := h.2.shape
  have hB0 : Below w.heap.size w (w.alloc (.cells #[.slice am c.mountains.length cpm, .slice av c.villages.length cpv] 25)) := (Below.refl _ w).alloc (Nat.le_refl _) _
  have hx : Blk w.heap.size #[.slice am c.mountains.length cpm, .slice av c.villages.length cpv] 25 (w.alloc (.cells #[.slice am c.mountains.length cpm, .slice av c.villages.length cpv] 25)) := Blk.new w _ _
  have h0 := h.call hB0
  have hpe : placesErrE c (m : Int) = 0 := placesErr_of hok hm
  have hpc := placesError_c h0 (m : Int)
  rw [hpe] at hpc
  have HPC := Lib.hid hpc
  have hvl : c.villages.length ≤ 4 := by have := hok.vl; have := hok.n2; omega
  clear hpe hpc
  go_enter Tryd.func8, Tryd.ntmps8
  go_wp2_with fail
  refine HPC.out.mono ?_
  rintro e w1 ⟨rfl, hB1⟩
  have h1 := h0.call hB1
  have hx1 := hx.below hB1 (by simp)
  have hB2 := hB0.trans (hB1.mono hB0.size)
  go_wp2_with fail
  refine wp_region_mix2 (.pur 0 (.one 1 (.pur 2 (.one 3 (.pur 4 (.act 5 (.act 6 (.act 7 .fin)))))))) 99 (Blk w.heap.size #[.slice am c.mountains.length cpm, .slice av c.villages.length cpv] 25) (fun _ => True) (by kernel_rfl) (by kernel_rfl) rfl (by kernel_rfl) hx1 (fun w2 hq2 hS2 => ?_)
  refine mix_pur2 rfl (fun K hK => ?_)
  go_simp
  first | refine ⟨_, fun _ => rfl, hK _ ?_⟩ | refine hK _ ?_
  clear hK K
  refine mix_load2 rfl rfl rfl (.slice av c.villages.length cpv) (fun w' h => by have h : (Blk w.heap.size #[.slice am c.mountains.length cpm, .slice av c.villages.length cpv] 25) w' := h; have h0 := h.cell 1; go_simp) rfl ?_
  refine mix_pur2 rfl (fun K hK => ?_)
  go_simp
  first | refine ⟨_, fun _ => rfl, hK _ ?_⟩ | refine hK _ ?_
  clear hK K
  refine mix_load2 rfl rfl rfl (.slice av c.villages.length cpv) (fun w' h => by have h : (Blk w.heap.size #[.slice am c.mountains.length cpm, .slice av c.villages.length cpv] 25) w' := h; have h0 := h.cell 1; go_simp) rfl ?_
  refine mix_pur2 rfl (fun K hK => ?_)
  go_simp
  first | refine ⟨_, fun _ => rfl, hK _ ?_⟩ | refine hK _ ?_
  clear hK K
  refine mix_eff2 rfl false rfl (fun K hK => ?_)
  go_simp
  refine (allot_c (h1.2.qt hq2) hok.vok (by omega) m (by omega)).mono ?_
  rintro e w3 ⟨v3, rfl, hv3, hB3⟩
  have hS3 := hS2.call hB3
  refine hK _ _ hS3 ?_
  clear hK K
  refine mix_eff2 rfl false rfl (fun K hK => ?_)
  go_simp
  refine (next_c ((h1.2.qt hq2).call hB3) hv3 (by rw [allotN_len]) hok.vok (allotN_ok _ _ (by omega))).mono ?_
  rintro e w4 ⟨rfl, hB4⟩
  refine hK _ _ (hS3.call hB4) ?_
  clear hK K
  refine mix_eff2 rfl false rfl (fun K hK => ?_)
  go_simp
  refine hK _ _ (hS3.call hB4) ?_
  clear hK K
  refine mix_done2 ?_
  have hB5 : Below w.heap.size w w4 := ((hB2.trans (hq2.below _)).trans (hB3.mono (by rw [hq2.size]; exact hB2.size))).trans (hB4.mono (by have := hB3.size; have := hq2.size; have := hB2.size; omega))
  cases ho : nextO c.villages (allotN c.villages m) c.villages.length with
  | none =>
    have HO := Lib.hid ho
    clear ho
    have ho1 : optI (none : Option Nat) = -1 := rfl
    go_wp2
    go_ret2
    exact ⟨by rw [HO.out]; rfl, hB5⟩
  | some i =>
    have HO := Lib.hid ho
    clear ho
    have ho1 : optI (some i) = (i : Int) := rfl
    go_wp2
    go_ret2
    exact ⟨by rw [HO.out]; rfl, hB5⟩

end Go.Proofs.YtmlikgjfpmjdcaaDoor

/- The walk of LotsNext: it hands back true, whatever the numbers; conditions: the argument reads as numbers. -/
namespace Go.Proofs.YtmlikgjfpmjdcaaDoor
open Go.RowKit

theorem nextO_her (vs : List Vil) (has : List Int) : ∀ k b, nextO vs has k = some b → has.getD b 0 < her vs b
  | 0, b, h => by simp [nextO] at h
  | k + 1, b, h => by
    simp only [nextO] at h
    split at h
    · split at h
      · injection h with h; subst h; assumption
      · cases h
    · rename_i b' hb'
      split at h
      · rename_i h1
        injection h with h; subst h; exact h1.1
      · injection h with h; subst h; exact nextO_her vs has k _ hb'
theorem nextO_none (vs : List Vil) (has : List Int) : ∀ k, nextO vs has k = none → ∀ i, i < k → her vs i ≤ has.getD i 0
  | 0, _, i, hi => by omega
  | k + 1, h, i, hi => by
    simp only [nextO] at h
    split at h
    · rename_i h0
      split at h
      · cases h
      · rename_i h1
        by_cases e : i = k
        · subst e; omega
        · exact nextO_none vs has k h0 i (by omega)
    · split at h <;> cases h
theorem allotN_her {vs : List Vil} (hv : VOk vs) : ∀ k i, i < vs.length → (allotN vs k).getD i 0 ≤ her vs i
  | 0, i, hi => by
    have h := hv _ (List.getElem_mem hi)
    rw [her_at hi]
    simp [allotN, hi]
    have := h.2.2.1
    omega
  | k + 1, i, hi => by
    have ih := allotN_her hv k i hi
    rw [allotN, allotStep]
    split
    · exact ih
    · rename_i b hb
      have hlt := nextO_lt vs _ _ _ hb
      by_cases e : b = i
      · subst e
        have h1 := nextO_her vs _ _ _ hb
        have : b < (allotN vs k).length := by rw [allotN_len]; exact hi
        simp [List.getD_eq_getElem?_getD, this] at h1 ⊢
        omega
      · simp only [List.getD_eq_getElem?_getD, List.getElem?_set_ne e]
        simpa using ih
theorem allotN_full {vs : List Vil} (hv : VOk vs) {k : Nat} (h : nextO vs (allotN vs k) vs.length = none) (i : Nat) (hi : i < vs.length) : (allotN vs k).getD i 0 = her vs i := by
  have h1 := allotN_her hv k i hi
  have h2 := nextO_none vs _ _ h i hi
  omega

theorem allot_ok {A : Nat → Prop} {w : World} {vm vv : Value} {c : Com} (h : Cm A w vm vv c) (hok : c.Ok 4) (m : Nat) (hm : m ≤ 99) :
    Calls Tryd.prog 7 #[.agg #[vm, vv], .int .i64 m] w fun e w' => ∃ v', e = .returned (.tuple #[v', .int .i64 0]) ∧ Ints (fun b => w.heap.size ≤ b) w' v' (allotN c.villages m) ∧ Below w.heap.size w w' := by
  have h1 := allotF_c h (m : Int)
  have hp := placesErr_of hok hm
  rw [allotR, if_pos hp, hp, Int.toNat_natCast] at h1
  exact h1
/-- A step of the hand's, for commons. -/
theorem Cm.hand {B hb : Nat} {w w' : World} {vm vv : Value} {c : Com} (h : Cm (fun b => B ≤ b) w vm vv c) (ho : w.grownBy w' (some hb)) (hB : hb < B) : Cm (fun b => B ≤ b) w' vm vv c := h.only ho (by omega)
theorem Blk.hand {b hb : Nat} {cs : Array Value} {t : TypeId} {w w' : World} (h : Blk b cs t w) (ho : w.grownBy w' (some hb)) (hB : b ≠ hb) : Blk b cs t w' := h.keep (ho.block b h.lt (fun e => hB (by injection e)))
theorem bhand {a w w' : World} {hb : Nat} (h : Below a.heap.size a w) (ho : w.grownBy w' (some hb)) (hB : a.heap.size ≤ hb) : Below a.heap.size a w' := h.grown ho h.size (fun k e => by injection e with e; omega)
theorem next_at {vs : List Vil} {k i : Nat} (hi : i < (allotN vs k).length) (hj : i < (allotN vs (k + 1)).length) : (allotN vs (k + 1))[i] = if nextO vs (allotN vs k) vs.length = some i then (allotN vs k)[i] + 1 else (allotN vs k)[i] := by
  have h : ∀ l : List Int, l = allotN vs (k + 1) → ∀ h : i < l.length, l[i] = if nextO vs (allotN vs k) vs.length = some i then (allotN vs k)[i] + 1 else (allotN vs k)[i] := by
    intro l hl hil
    rw [allotN, allotStep] at hl
    cases hb : nextO vs (allotN vs k) vs.length with
    | none => rw [hb] at hl; subst hl; simp
    | some b =>
      rw [hb] at hl
      simp only at hl
      subst hl
      rw [List.getElem_set]
      by_cases e : b = i
      · subst e; simp [hi]
      · have : ¬ (some b = some i) := fun h => e (by injection h)
        simp [e]
  exact h _ rfl hj

end Go.Proofs.YtmlikgjfpmjdcaaDoor

/- Places allotted to the last head, in plain words: what is allotted is the only list that is just; conditions: as said. -/
namespace Go.Proofs.YtmlikgjfpmjdcaaDoor
open Go.RowKit

def sumI : List Int → Int
  | [] => 0
  | x :: t => x + sumI t
theorem sumI_append (a b : List Int) : sumI (a ++ b) = sumI a + sumI b := by
  induction a with
  | nil => simp [sumI]
  | cons x t ih => simp only [List.cons_append, sumI, ih]; omega
theorem sumI_le : ∀ {l m : List Int}, l.length = m.length → (∀ i, i < l.length → l.getD i 0 ≤ m.getD i 0) → sumI l ≤ sumI m ∧ (sumI l = sumI m → l = m)
  | [], [], _, _ => ⟨Int.le_refl _, fun _ => rfl⟩
  | [], _ :: _, h, _ => by simp at h
  | _ :: _, [], h, _ => by simp at h
  | x :: t, y :: u, h, hi => by
    have h0 := hi 0 (by simp)
    simp at h0
    obtain ⟨h1, h2⟩ := sumI_le (l := t) (m := u) (by simpa using h) (fun i hl => by have := hi (i + 1) (by simp; omega); simpa using this)
    refine ⟨by simp only [sumI]; omega, fun he => ?_⟩
    simp only [sumI] at he
    have e1 : x = y := by omega
    rw [e1, h2 (by omega)]
theorem sumI_set : ∀ {l : List Int} {b : Nat} (x : Int), b < l.length → sumI (l.set b (l.getD b 0 + x)) = sumI l + x
  | [], _, _, h => by simp at h
  | y :: t, 0, x, _ => by simp [sumI]; omega
  | y :: t, b + 1, x, h => by
    have := sumI_set (l := t) (b := b) x (by simpa using h)
    simp only [List.set_cons_succ, List.getD_cons_succ, sumI, this]
    omega

/-- Nobody could better claim a place that another has. -/
def JustP (vs : List Vil) (l : List Int) : Prop := ∀ i k, i < vs.length → k < vs.length → i ≠ k → l.getD i 0 < her vs i → 0 < l.getD k 0 →
  hea vs i * l.getD k 0 ≤ hea vs k * (l.getD i 0 + 1) ∧ (hea vs i * l.getD k 0 = hea vs k * (l.getD i 0 + 1) → k < i)

theorem just_one {vs : List Vil} (hh : ∀ i, i < vs.length → 1 ≤ hea vs i) {l m : List Int} (hl : l.length = vs.length) (hm : m.length = vs.length)
    (bl : ∀ i, i < vs.length → 0 ≤ l.getD i 0 ∧ l.getD i 0 ≤ her vs i) (bm : ∀ i, i < vs.length → 0 ≤ m.getD i 0 ∧ m.getD i 0 ≤ her vs i) (hs : sumI l = sumI m) (jl : JustP vs l) (jm : JustP vs m) : l = m := by
  by_cases h1 : ∃ k, k < vs.length ∧ m.getD k 0 < l.getD k 0
  · by_cases h2 : ∃ i, i < vs.length ∧ l.getD i 0 < m.getD i 0
    · exfalso
      obtain ⟨k, hk, hkl⟩ := h1
      obtain ⟨i, hi, hil⟩ := h2
      have hne : i ≠ k := fun e => by subst e; omega
      have a := jl i k hi hk hne (by have := bm i hi; omega) (by have := bm k hk; omega)
      have b := jm k i hk hi (Ne.symm hne) (by have := bl k hk; omega) (by have := bl i hi; omega)
      have c1 : hea vs k * (l.getD i 0 + 1) ≤ hea vs k * m.getD i 0 := Int.mul_le_mul_of_nonneg_left (by omega) (by have := hh k hk; omega)
      have c2 : hea vs i * (m.getD k 0 + 1) ≤ hea vs i * l.getD k 0 := Int.mul_le_mul_of_nonneg_left (by omega) (by have := hh i hi; omega)
      have d1 := a.2 (by omega)
      have d2 := b.2 (by omega)
      omega
    · refine ((sumI_le (l := m) (m := l) (by omega) (fun i hi => ?_)).2 hs.symm).symm
      by_cases h : l.getD i 0 < m.getD i 0
      · exact absurd ⟨i, by omega, h⟩ h2
      · omega
  · refine (sumI_le (l := l) (m := m) (by omega) (fun i hi => ?_)).2 hs
    by_cases h : m.getD i 0 < l.getD i 0
    · exact absurd ⟨i, by omega, h⟩ h1
    · omega

theorem frac_lt {x y z a b c : Int} (hb : 0 < b) (hc : 0 < c) (ha : 0 < a) (h1 : x * b ≤ y * a) (h2 : y * c < z * b) : x * c < z * a := by
  have e1 : x * b * c ≤ y * a * c := Int.mul_le_mul_of_nonneg_right h1 (by omega)
  have e2 : y * c * a < z * b * a := Int.mul_lt_mul_of_pos_right h2 ha
  have e3 : (x * c) * b < (z * a) * b := by
    have f1 : x * c * b = x * b * c := by rw [Int.mul_assoc, Int.mul_comm c b, ← Int.mul_assoc]
    have f2 : z * a * b = z * b * a := by rw [Int.mul_assoc, Int.mul_comm a b, ← Int.mul_assoc]
    have f3 : y * a * c = y * c * a := by rw [Int.mul_assoc, Int.mul_comm a c, ← Int.mul_assoc]
    omega
  exact Int.lt_of_mul_lt_mul_right e3 (by omega)

/-- Whoever gets the next place has the best claim, and the first of the best. -/
theorem nextO_best {vs : List Vil} {has : List Int} (hh : ∀ i, i < vs.length → 1 ≤ hea vs i) (hp : ∀ i, i < vs.length → 0 ≤ has.getD i 0) : ∀ k b, k ≤ vs.length → nextO vs has k = some b →
    b < k ∧ has.getD b 0 < her vs b ∧ ∀ i, i < k → has.getD i 0 < her vs i → hea vs i * (has.getD b 0 + 1) ≤ hea vs b * (has.getD i 0 + 1) ∧ (hea vs i * (has.getD b 0 + 1) = hea vs b * (has.getD i 0 + 1) → b ≤ i)
  | 0, b, _, h => by simp [nextO] at h
  | k + 1, b, hk, h => by
    simp only [nextO] at h
    split at h
    · rename_i h0
      have hn := nextO_none vs has k h0
      split at h
      · rename_i h1
        injection h with h; subst h
        refine ⟨by omega, h1, fun i hi hl => ?_⟩
        by_cases e : i = k
        · subst e; exact ⟨Int.le_refl _, fun _ => Nat.le_refl _⟩
        · have := hn i (by omega); omega
      · cases h
    · rename_i b' hb'
      obtain ⟨i1, i2, i3⟩ := nextO_best hh hp k b' (by omega) hb'
      split at h
      · rename_i h1
        injection h with h; subst h
        refine ⟨by omega, h1.1, fun i hi hl => ?_⟩
        by_cases e : i = k
        · subst e; exact ⟨Int.le_refl _, fun _ => Nat.le_refl _⟩
        · have h3 := (i3 i (by omega) hl).1
          have h4 := frac_lt (x := hea vs i) (y := hea vs b') (z := hea vs k) (a := has.getD i 0 + 1) (b := has.getD b' 0 + 1) (c := has.getD k 0 + 1) (by have := hp b' (by omega); omega) (by have := hp k (by omega); omega) (by have := hp i (by omega); omega) h3 h1.2
          exact ⟨by omega, fun e => by omega⟩
      · rename_i h1
        injection h with h; subst h
        refine ⟨by omega, i2, fun i hi hl => ?_⟩
        by_cases e : i = k
        · subst e
          have : ¬ hea vs b' * (has.getD i 0 + 1) < hea vs i * (has.getD b' 0 + 1) := fun h => h1 ⟨hl, h⟩
          exact ⟨by omega, fun _ => by omega⟩
        · exact i3 i (by omega) hl

def herds (vs : List Vil) : List Int := vs.map (·.herd)
theorem herds_at (vs : List Vil) (i : Nat) (hi : i < vs.length) : (herds vs).getD i 0 = her vs i := by
  rw [her_at hi]; simp [herds, hi]
theorem vok_hea {vs : List Vil} (hv : VOk vs) : ∀ i, i < vs.length → 1 ≤ hea vs i := fun i hi => by
  rw [hea_at hi]; exact (hv _ (List.getElem_mem hi)).1
theorem vok_her {vs : List Vil} (hv : VOk vs) : ∀ i, i < vs.length → 0 ≤ her vs i := fun i hi => by
  rw [her_at hi]; exact (hv _ (List.getElem_mem hi)).2.2.1
theorem allotN_pos {vs : List Vil} : ∀ p i, 0 ≤ (allotN vs p).getD i 0
  | 0, i => by
    simp only [allotN, List.getD_eq_getElem?_getD, List.getElem?_replicate]
    split <;> simp
  | p + 1, i => by
    have ih := allotN_pos (vs := vs) p
    rw [allotN, allotStep]
    split
    · exact ih i
    · rename_i b hb
      by_cases e : b = i
      · subst e
        have : b < (allotN vs p).length := by rw [allotN_len]; exact nextO_lt vs _ _ _ hb
        rw [List.getD_eq_getElem?_getD, List.getElem?_set_self this]
        have := ih b
        simp only [Option.getD_some]; omega
      · simp only [List.getD_eq_getElem?_getD, List.getElem?_set_ne e]
        simpa using ih i
/-- What is allotted is just. -/
theorem allotN_just {vs : List Vil} (hv : VOk vs) : ∀ p, JustP vs (allotN vs p)
  | 0 => fun i k hi hk _ _ h => by
    simp only [allotN, List.getD_eq_getElem?_getD, List.getElem?_replicate] at h
    simp [hk] at h
  | p + 1 => by
    have ih := allotN_just hv p
    rw [allotN, allotStep]
    split
    · exact ih
    · rename_i b hb
      obtain ⟨hbl, hbh, hbest⟩ := nextO_best (vok_hea hv) (fun i _ => allotN_pos p i) _ _ (Nat.le_refl _) hb
      have hbll : b < (allotN vs p).length := by rw [allotN_len]; exact hbl
      have sb : ((allotN vs p).set b ((allotN vs p).getD b 0 + 1)).getD b 0 = (allotN vs p).getD b 0 + 1 := by
        rw [List.getD_eq_getElem?_getD, List.getElem?_set_self hbll]; rfl
      have so : ∀ i, i ≠ b → ((allotN vs p).set b ((allotN vs p).getD b 0 + 1)).getD i 0 = (allotN vs p).getD i 0 := fun i e => by
        simp only [List.getD_eq_getElem?_getD, List.getElem?_set_ne (Ne.symm e)]
      intro i k hi hk hne hlt hpos
      by_cases e1 : i = b
      · subst e1
        rw [sb] at hlt ⊢
        rw [so k (Ne.symm hne)] at hpos ⊢
        have h1 := (ih i k hi hk hne (by omega) hpos).1
        have h2 : hea vs k * ((allotN vs p).getD i 0 + 1) < hea vs k * ((allotN vs p).getD i 0 + 1 + 1) := Int.mul_lt_mul_of_pos_left (by omega) (by have := vok_hea hv k hk; omega)
        exact ⟨by omega, fun e => by omega⟩
      · rw [so i e1] at hlt ⊢
        by_cases e2 : k = b
        · subst e2
          rw [sb]
          have h1 := hbest i hi hlt
          exact ⟨h1.1, fun e => by have := h1.2 e; omega⟩
        · rw [so k e2] at hpos ⊢
          exact ih i k hi hk hne hlt hpos
theorem allotN_sum {vs : List Vil} (hv : VOk vs) : ∀ p : Nat, sumI (allotN vs p) = min (p : Int) (sumI (herds vs))
  | 0 => by
    have h0 : ∀ n, sumI (List.replicate n 0) = 0 := fun n => by
      induction n with
      | zero => rfl
      | succ n ih => simp [List.replicate_succ, sumI, ih]
    have h1 := (sumI_le (l := List.replicate vs.length 0) (m := herds vs) (by simp [herds]) (fun i hi => by
      have hi : i < vs.length := by simpa using hi
      rw [herds_at vs i hi]
      have := vok_her hv i hi
      simp [hi]; exact this)).1
    rw [h0] at h1
    rw [allotN, h0]; simp; omega
  | p + 1 => by
    have ih := allotN_sum hv p
    have hle : ∀ i, i < (allotN vs p).length → (allotN vs p).getD i 0 ≤ (herds vs).getD i 0 := fun i hi => by
      rw [allotN_len] at hi
      rw [herds_at vs i hi]; exact allotN_her hv p i hi
    have hl : (allotN vs p).length = (herds vs).length := by rw [allotN_len]; simp [herds]
    obtain ⟨s1, s2⟩ := sumI_le hl hle
    rw [allotN, allotStep]
    split
    · rename_i hn
      have hf : allotN vs p = herds vs := by
        have h3 : ∀ i, i < (herds vs).length → (herds vs).getD i 0 ≤ (allotN vs p).getD i 0 := fun i hi => by
          have hi : i < vs.length := by simpa [herds] using hi
          rw [herds_at vs i hi, allotN_full hv hn i hi]; exact Int.le_refl _
        have h4 := (sumI_le hl.symm h3).1
        exact s2 (by omega)
      rw [hf] at ih ⊢
      omega
    · rename_i b hb
      have hbl := nextO_lt vs _ _ _ hb
      have hbh := nextO_her vs _ _ _ hb
      rw [sumI_set 1 (by rw [allotN_len]; exact hbl)]
      by_cases he : sumI (allotN vs p) = sumI (herds vs)
      · have := s2 he
        rw [this, herds_at vs b hbl] at hbh
        omega
      · omega

end Go.Proofs.YtmlikgjfpmjdcaaDoor

/- The contracts of place, want and whole (mestalaw08); conditions: as said. -/
namespace Go.Proofs.YtmlikgjfpmjdcaaDoor
open Go.RowKit

section
variable {P : Program} {ops : Array Oper} {Q : Exit → Act → World → Prop} {C : Bool → World → Prop}
/-- A guarded load that is wanted. -/
theorem mix_loadg2 {z i : Nat} {rest : PlanC} {ph : Bool} {a : Act} {w : World} {o : Oper} (hi : ops[i]? = some o) {t : TypeId} {x : Operand} (ho : o.op = .load t x) {p : Addr} (v : Value)
    (hg : Region.wanted o (yielded ops a.tmps) = true) (hv : ∀ w', C ph w' → (loadVar t p).run P w' = .ok v w') (hx : a.eval x = .pointer (some p)) (h : wpMix2 P ops C z Q rest ph (a.put o.dst v) w) : wpMix2 P ops C z Q (.one i rest) ph a w := by
  refine ⟨o, v, hi, .inl ⟨hg, fun w' hS => ?_⟩, h⟩
  simp [execOp, ho, Instr.loadAt, hx, Instr.sureAddr, hv w' hS]
end

theorem wholeL {n : Nat} {l : List Int} (hp : PermOf n l) (k : Nat) (hk : k < n) : 0 ≤ placeOf l (k : Int) := by
  rw [placeOf_nonneg, hp.mem]; omega
/-- What want reads. -/
def WaS (b : Nat) (vm vv : Value) (A : Nat → Prop) (vl : Value) (l : List Int) (w : World) : Prop := Blk b #[vm, vv] 25 w ∧ Ints A w vl l
theorem WaS.call {b : Nat} {vm vv : Value} {A : Nat → Prop} {vl : Value} {l : List Int} {w w' : World} (h : WaS b vm vv A vl l w) (hB : Below w.heap.size w w') : WaS b vm vv A vl l w' := ⟨h.1.call hB, h.2.call hB⟩
theorem WaS.drew {b : Nat} {vm vv : Value} {A : Nat → Prop} {vl : Value} {l : List Int} {w : World} (h : WaS b vm vv A vl l w) : WaS b vm vv A vl l w.drew := ⟨h.1, h.2.drewN 1⟩

end Go.Proofs.YtmlikgjfpmjdcaaDoor

/- All words and all orders (mestakit.Words, mestalaw08.orders): slices of slices whose rows the call owns; conditions: at most four. -/
namespace Go.Proofs.YtmlikgjfpmjdcaaDoor
open Go.RowKit

/-- A slice of slices that the call has made; its rows lie apart from it, in blocks of A. -/
def GO (A : Nat → Prop) (B : Nat) (w : World) (v : Value) (out : List (List Int)) : Prop :=
  ∃ vs : List Value, vs.length = out.length ∧ Own B w 22 1 v out.length vs ∧ ∀ i (a : i < vs.length) (b : i < out.length), Ints (fun k => A k ∧ v.ownBlock ≠ some k) w vs[i] out[i]
theorem GO.nil (A : Nat → Prop) (B : Nat) (w : World) : GO A B w (.slice none 0 0) [] := ⟨[], rfl, Own.nil, fun i a => by simp at a⟩
theorem GO.call {A : Nat → Prop} {B : Nat} {w w' : World} {v : Value} {out : List (List Int)} (h : GO A B w v out) (hB : Below w.heap.size w w') : GO A B w' v out := by
  obtain ⟨vs, h1, h2, h3⟩ := h
  exact ⟨vs, h1, h2.step fun k _ _ hl => hB.block k hl, fun i a b => (h3 i a b).step hB.size fun k _ hl => hB.block k hl⟩
theorem GO.lt {A : Nat → Prop} {B : Nat} {w : World} {v : Value} {out : List (List Int)} (h : GO A B w v out) (q : Nat) (hq : v.ownBlock = some q) : q < w.heap.size := by
  obtain ⟨vs, _, ho, _⟩ := h
  exact (ho.lt q hq).2
theorem GO.grid {A C : Nat → Prop} {B : Nat} {w : World} {v : Value} {out : List (List Int)} (h : GO A B w v out) (hA : ∀ k, A k → C k) (hB : ∀ k, B ≤ k → C k) : Grid C w v out := by
  obtain ⟨vs, h1, h2, h3⟩ := h
  exact ⟨vs, h1, h2.arr.wide fun k hk _ => hB k hk, fun i a b => (h3 i a b).wide fun k hk _ => hA k hk.1⟩
theorem gput {A : Nat → Prop} {B : Nat} {w w3 : World} {v v' r : Value} {out : List (List Int)} {vs : List Value} {l : List Int} (h1 : vs.length = out.length)
    (h3 : ∀ i (a : i < vs.length) (b : i < out.length), Ints (fun k => A k ∧ v.ownBlock ≠ some k) w vs[i] out[i]) (hr : Ints (fun k => A k ∧ v.ownBlock ≠ some k) w r l)
    (ho : Own B w3 22 1 v' (out.length + 1) (vs ++ [r])) (hT : Turned (w.alloc (.cells #[r] 22)) w3 v v') : GO A B w3 v' (out ++ [l]) := by
  have hsz : (w.alloc (.cells #[r] 22)).heap.size = w.heap.size + 1 := by simp
  have hpl : ∀ k, k < w.heap.size + 1 → v.ownBlock ≠ some k → v'.ownBlock ≠ some k := fun k hk hv e => by
    rcases hT.place with e1 | e1
    · exact hv (e1 ▸ e)
    · rw [e1, hsz] at e; simp at e; omega
  have hs3 : w.heap.size + 1 ≤ w3.heap.size := by have := hT.size; omega
  have go : ∀ (u : Value) (x : List Int), Ints (fun k => A k ∧ v.ownBlock ≠ some k) w u x → Ints (fun k => A k ∧ v'.ownBlock ≠ some k) w3 u x := fun u x h =>
    ((h.wide (A' := fun k => A k ∧ v.ownBlock ≠ some k ∧ k < w.heap.size) fun k hk hl => ⟨hk.1, hk.2, hl⟩).step (w' := w3) (by omega) fun k hk hl => by
      rw [hT.block k (by omega) hk.2.1, Below.heap_alloc _ _ k hl]).wide fun k hk hl => ⟨hk.1, hpl k (by have := hk.2.2; omega) hk.2.1⟩
  refine ⟨vs ++ [r], by simp [h1], by simpa using ho, fun i a b => ?_⟩
  by_cases hi : i < vs.length
  · rw [List.getElem_append_left hi, List.getElem_append_left (by omega)]
    exact go _ _ (h3 i hi (by omega))
  · have hie : i = vs.length := by simp at a; omega
    subst hie
    have e1 : (vs ++ [r])[vs.length] = r := by simp
    have e2 : (out ++ [l])[vs.length] = l := by simp [h1]
    rw [e1, e2]
    exact go _ _ hr

def wordsL (n : Nat) : Nat → List (List Int)
  | 0 => [[]]
  | m + 1 => (List.range n).flatMap fun (i : Nat) => (wordsL n m).map fun t => (i : Int) :: t
theorem wordsL_len {n : Nat} (hn : n ≤ 4) : ∀ m, m ≤ 4 → (wordsL n m).length ≤ 256 ∧ (m ≤ 3 → (wordsL n m).length ≤ 64) := by
  have h : ∀ n < 5, ∀ m < 5, (wordsL n m).length ≤ 256 ∧ (m ≤ 3 → (wordsL n m).length ≤ 64) := by decide +kernel
  intro m hm
  exact h n (by omega) m (by omega)
theorem wordsL_at {n m : Nat} : ∀ l ∈ wordsL n m, l.length = m := by
  induction m with
  | zero => intro l hl; simp [wordsL] at hl; simp [hl]
  | succ m ih =>
    intro l hl
    simp only [wordsL, List.mem_flatMap, List.mem_map] at hl
    obtain ⟨i, _, t, ht, rfl⟩ := hl
    simp [ih t ht]
theorem words_more (i : Nat) (R : List (List Int)) (k : Nat) (hk : k < R.length) :
    ((List.range i).flatMap (fun (a : Nat) => R.map fun t => (a : Int) :: t) ++ (R.take k).map fun t => (i : Int) :: t) ++ [(i : Int) :: R[k]] = (List.range i).flatMap (fun (a : Nat) => R.map fun t => (a : Int) :: t) ++ (R.take (k + 1)).map fun t => (i : Int) :: t := by
  rw [List.append_assoc, List.take_succ_eq_append_getElem hk, List.map_append]
  rfl
theorem words_row (i : Nat) (R : List (List Int)) :
    (List.range i).flatMap (fun (a : Nat) => R.map fun t => (a : Int) :: t) ++ (R.take R.length).map (fun t => (i : Int) :: t) = (List.range (i + 1)).flatMap (fun (a : Nat) => R.map fun t => (a : Int) :: t) := by
  rw [List.take_length, List.range_succ, List.flatMap_append]
  simp
theorem words_len (i : Nat) (R : List (List Int)) : ((List.range i).flatMap (fun (a : Nat) => R.map fun t => (a : Int) :: t)).length = i * R.length := by
  induction i with
  | zero => simp
  | succ i ih => rw [List.range_succ, List.flatMap_append, List.length_append, ih, Nat.add_mul]; simp

def allN (l : List Int) (j : Nat) : Bool := (List.range j).all fun (k : Nat) => decide (0 ≤ placeOf l (k : Int))
theorem allN_succ (l : List Int) (j : Nat) : allN l (j + 1) = (allN l j && decide (0 ≤ placeOf l (j : Int))) := by simp [allN, List.range_succ]
def ordersL (n : Nat) : List (List Int) := (wordsL n n).filter fun l => allN l n
theorem filter_take (p : List Int → Bool) (R : List (List Int)) (k : Nat) (hk : k < R.length) : (R.take (k + 1)).filter p = (R.take k).filter p ++ (if p R[k] then [R[k]] else []) := by
  rw [List.take_succ_eq_append_getElem hk, List.filter_append, List.filter_cons, List.filter_nil]

theorem orders_perm {n : Nat} (hn : n ≤ 4) : ∀ l ∈ ordersL n, PermOf n l := by
  have h : ∀ n < 5, ∀ l ∈ ordersL n, l.isPerm (iota n) = true := by decide +kernel
  exact fun l hl => List.isPerm_iff.1 (h n (by omega) l hl)

end Go.Proofs.YtmlikgjfpmjdcaaDoor

/- Exchanges, in plain words: each is wanted by both, after them nobody wants one, and nobody is worse off; conditions: as said. -/
namespace Go.Proofs.YtmlikgjfpmjdcaaDoor
open Go.RowKit

/-- Exchanges one after another, each wanted by both. -/
def Seq (vs : List Vil) : List Int → List (List Int) → List Int → Prop
  | l, [], fin => fin = l
  | l, e :: t, fin => ∃ i j : Nat, e = [(i : Int), (j : Int)] ∧ i < j ∧ j < l.length ∧ both vs l i j = true ∧ Seq vs (swapAt l (i, j)) t fin

theorem Seq.of (vs : List Vil) : ∀ (k : Nat) (l : List Int) (out : List (List Int)), ∃ t, (swapsN vs k l out).1 = out ++ t ∧ Seq vs l t (swapsN vs k l out).2
  | 0, l, out => ⟨[], by simp [swapsN], rfl⟩
  | k + 1, l, out => by
    rw [swapsN]
    split
    · exact ⟨[], by simp, rfl⟩
    · rename_i h
      obtain ⟨t, e, hs⟩ := Seq.of vs k (swapAt l (wantF vs l)) (out ++ [[((wantF vs l).1 : Int), ((wantF vs l).2 : Int)]])
      rcases wantF_is vs l with ⟨h0, _⟩ | ⟨h1, h2, h3, _⟩
      · exact absurd h0 h
      · exact ⟨_ :: t, by rw [e, List.append_assoc]; rfl, _, _, rfl, h1, h2, h3, hs⟩
theorem swaps_quiet {vs : List Vil} {n : Nat} (hlk : ∀ v ∈ vs, PermOf n v.likes) (hv : vs.length = n) : ∀ (k : Nat) (l : List Int) (out : List (List Int)), l.length = n → PermOf n l → pot vs l ≤ k → wantF vs (swapsN vs k l out).2 = (0, 0)
  | 0, l, out, hl, hp, hk => by
    rw [swapsN]
    rcases wantF_is vs l with ⟨h0, _⟩ | ⟨h1, h2, h3, _⟩
    · exact h0
    · have := pot_swap (by rw [hl]; exact hlk) (by omega) (by rw [hl]; exact hp) h1 h2 h3
      omega
  | k + 1, l, out, hl, hp, hk => by
    rw [swapsN]
    split
    · assumption
    · rename_i h
      rcases wantF_is vs l with ⟨h0, _⟩ | ⟨h1, h2, h3, _⟩
      · exact absurd h0 h
      · have h4 := pot_swap (by rw [hl]; exact hlk) (by omega) (by rw [hl]; exact hp) h1 h2 h3
        exact swaps_quiet hlk hv k _ _ (by rw [swapAt_len]; exact hl) (swapAt_perm hp h1 h2) (by show pot vs (swapAt l ((wantF vs l).1, (wantF vs l).2)) ≤ k; omega)
theorem Seq.le {vs : List Vil} (v : Nat) : ∀ {t : List (List Int)} {l fin : List Int}, Seq vs l t fin → rk vs v (fin.getD v 0) ≤ rk vs v (l.getD v 0)
  | [], l, fin, h => by
    have h : fin = l := h
    rw [h]; omega
  | e :: t, l, fin, h => by
    obtain ⟨i, j, _, hij, hj, hb, hs⟩ := h
    have ih := Seq.le v hs
    rw [swapAt_at l hij hj] at ih
    simp only [both, wish, Bool.and_eq_true, decide_eq_true_eq] at hb
    by_cases e1 : v = i
    · subst e1; rw [if_pos rfl] at ih; omega
    · rw [if_neg e1] at ih
      by_cases e2 : v = j
      · subst e2; rw [if_pos rfl] at ih; omega
      · rw [if_neg e2] at ih; exact ih
theorem Seq.perm {vs : List Vil} {n : Nat} : ∀ {t : List (List Int)} {l fin : List Int}, Seq vs l t fin → PermOf n l → PermOf n fin
  | [], l, fin, h, hp => by
    have h : fin = l := h
    rw [h]; exact hp
  | e :: t, l, fin, h, hp => by
    obtain ⟨i, j, _, hij, hj, hb, hs⟩ := h
    exact Seq.perm hs (swapAt_perm hp hij hj)
theorem Seq.at {vs : List Vil} {m : List Int} {out : List (List Int)} {k : Nat} {fin : List Int} (hk : k < out.length) (h : Seq vs m (out.drop k) fin) : ∃ i j : Nat, out[k] = [(i : Int), (j : Int)] ∧ i < j ∧ j < m.length ∧ both vs m i j = true ∧ Seq vs (swapAt m (i, j)) (out.drop (k + 1)) fin := by
  rw [List.drop_eq_getElem_cons hk] at h
  exact h
theorem Seq.stop {vs : List Vil} {m : List Int} {out : List (List Int)} {fin : List Int} (h : Seq vs m (out.drop out.length) fin) : m = fin := by
  rw [List.drop_length] at h
  exact Eq.symm h

theorem divE_zero {c : Com} {l : List Int} (hok : c.Ok 4) (hp : PermOf c.mountains.length l) : divE c l = 0 := by
  rw [divE, if_pos ((checkE_zero c).2 hok)]
  exact (placesE_zero l _).2 hp

/-- What Swaps answers to valid commons and a division. -/
structure SwLaw (c : Com) (l : List Int) (out : List (List Int)) (fin : List Int) : Prop where
  seq : Seq c.villages l out fin
  perm : PermOf c.mountains.length fin
  quiet : ∀ i j, i < j → j < fin.length → both c.villages fin i j = false
  le : ∀ v, rk c.villages v (fin.getD v 0) ≤ rk c.villages v (l.getD v 0)
theorem swaps_law {c : Com} {l : List Int} (hok : c.Ok 4) (hp : PermOf c.mountains.length l) : SwLaw c l (swapsF c.villages l).1 (swapsF c.villages l).2 := by
  obtain ⟨t, e, hs⟩ := Seq.of c.villages (pot c.villages l) l []
  rw [List.nil_append] at e
  have hq := swaps_quiet (fun v hv => (hok.vil v hv).2.2.2.2) hok.vl (pot c.villages l) l [] hp.len hp (Nat.le_refl _)
  have e : (swapsF c.villages l).1 = t := e
  have hs : Seq c.villages l t (swapsF c.villages l).2 := hs
  have hq : wantF c.villages (swapsF c.villages l).2 = (0, 0) := hq
  rw [e]
  refine ⟨hs, hs.perm hp, fun i j hij hj => ?_, fun v => hs.le v⟩
  rcases wantF_is c.villages (swapsF c.villages l).2 with ⟨_, h⟩ | ⟨h1, _⟩
  · exact h i j hij hj
  · rw [hq] at h1; omega

end Go.Proofs.YtmlikgjfpmjdcaaDoor

/- The walk of LotsSwaps: it hands back true, whatever the numbers; conditions: the argument reads as numbers. -/
namespace Go.Proofs.YtmlikgjfpmjdcaaDoor
open Go.RowKit

/-- What a round over the exchanges reads. -/
def SwS (b : Nat) (vm vv : Value) (gb o : Nat) (row : Value) (rb ro : Nat) (i j : Nat) (w : World) : Prop := Blk b #[vm, vv] 25 w ∧ w.cell? ⟨gb, o, none⟩ = some row ∧ w.cell? ⟨rb, ro, none⟩ = some (.int .i64 i) ∧ w.cell? ⟨rb, ro + 1, none⟩ = some (.int .i64 j)
theorem SwS.drew {b : Nat} {vm vv : Value} {gb o : Nat} {row : Value} {rb ro i j : Nat} {w : World} (h : SwS b vm vv gb o row rb ro i j w) : SwS b vm vv gb o row rb ro i j w.drew := h
/-- What the last comparison reads. -/
def PrS (b : Nat) (vm vv : Value) (bf fo bl lo i : Nat) (x y : Int) (w : World) : Prop := Blk b #[vm, vv] 25 w ∧ w.cell? ⟨bf, fo + i, none⟩ = some (.int .i64 x) ∧ w.cell? ⟨bl, lo + i, none⟩ = some (.int .i64 y)
theorem PrS.drew {b : Nat} {vm vv : Value} {bf fo bl lo i : Nat} {x y : Int} {w : World} (h : PrS b vm vv bf fo bl lo i x y w) : PrS b vm vv bf fo bl lo i x y w.drew := h

end Go.Proofs.YtmlikgjfpmjdcaaDoor

/- All lists of places (mestalaw08.shared): the contract; conditions: at most four villages, at most ten places. -/
namespace Go.Proofs.YtmlikgjfpmjdcaaDoor
open Go.RowKit

def sharedL (vs : List Vil) : Nat → List Int → Nat → List (List Int)
  | 0, begun, P => if P = 0 then [begun] else []
  | m + 1, begun, P => (List.range (min P (her vs begun.length).toNat + 1)).flatMap fun (n : Nat) => sharedL vs m (begun ++ [(n : Int)]) (P - n)
theorem flat_len {f : Nat → List (List Int)} {B : Nat} (h : ∀ n, (f n).length ≤ B) : ∀ k, ((List.range k).flatMap f).length ≤ k * B
  | 0 => by simp
  | k + 1 => by
    have ih := flat_len h k
    have := h k
    have e : List.flatMap f [k] = f k := by simp
    rw [List.range_succ, List.flatMap_append, List.length_append, Nat.add_mul, e]
    omega
theorem shared_len (vs : List Vil) : ∀ m begun P, P ≤ 10 → (sharedL vs m begun P).length ≤ 11 ^ m
  | 0, begun, P, _ => by
    rw [sharedL]; split <;> simp
  | m + 1, begun, P, hP => by
    rw [sharedL]
    have h1 := flat_len (f := fun (n : Nat) => sharedL vs m (begun ++ [(n : Int)]) (P - n)) (fun n => shared_len vs m (begun ++ [(n : Int)]) (P - n) (by omega)) (min P (her vs begun.length).toNat + 1)
    have h2 : (min P (her vs begun.length).toNat + 1) * 11 ^ m ≤ 11 * 11 ^ m := Nat.mul_le_mul_right _ (by omega)
    rw [Nat.pow_succ, Nat.mul_comm (11 ^ m)]
    omega
theorem gputs {A : Nat → Prop} {B : Nat} {w w3 : World} {v v' : Value} {out news : List (List Int)} {vs us : List Value} (h1 : vs.length = out.length)
    (h3 : ∀ i (a : i < vs.length) (b : i < out.length), Ints (fun k => A k ∧ v.ownBlock ≠ some k) w vs[i] out[i]) (hu : us.length = news.length)
    (hr : ∀ i (a : i < us.length) (b : i < news.length), Ints (fun k => A k ∧ v.ownBlock ≠ some k) w us[i] news[i])
    (ho : Own B w3 22 1 v' (out.length + news.length) (vs ++ us)) (hT : Turned w w3 v v') : GO A B w3 v' (out ++ news) := by
  have hpl : ∀ k, k < w.heap.size → v.ownBlock ≠ some k → v'.ownBlock ≠ some k := fun k hk hv e => by
    rcases hT.place with e1 | e1
    · exact hv (e1 ▸ e)
    · rw [e1] at e; simp at e; omega
  have go : ∀ (u : Value) (x : List Int), Ints (fun k => A k ∧ v.ownBlock ≠ some k) w u x → Ints (fun k => A k ∧ v'.ownBlock ≠ some k) w3 u x := fun u x h =>
    ((h.wide (A' := fun k => A k ∧ v.ownBlock ≠ some k ∧ k < w.heap.size) fun k hk hl => ⟨hk.1, hk.2, hl⟩).step (w' := w3) hT.size fun k hk hl => hT.block k hl hk.2.1).wide fun k hk hl => ⟨hk.1, hpl k hk.2.2 hk.2.1⟩
  refine ⟨vs ++ us, by simp [h1, hu], by simpa using ho, fun i a b => ?_⟩
  by_cases hi : i < vs.length
  · rw [List.getElem_append_left hi, List.getElem_append_left (by omega)]
    exact go _ _ (h3 i hi (by omega))
  · rw [List.getElem_append_right (by omega), List.getElem_append_right (by omega)]
    have := hr (i - vs.length) (by simp at a; omega) (by simp at b; omega)
    have e : i - out.length = i - vs.length := by omega
    simp only [e]
    exact go _ _ this
theorem grid_one {A : Nat → Prop} {w : World} {us : List Value} {g : List (List Int)} (hu : us.length = g.length) (h : ∀ i (a : i < us.length) (b : i < g.length), Ints A w us[i] g[i]) : ∀ u ∈ us, u.oneCell' = true := by
  intro u hu'
  obtain ⟨i, hi, rfl⟩ := List.getElem_of_mem hu'
  obtain ⟨ao, cap, he, _⟩ := (h i hi (by omega)).shape
  rw [he]
  rfl

end Go.Proofs.YtmlikgjfpmjdcaaDoor

/- All divisions that go on from some (mestaref08.Divisions); conditions: at most four mountains. -/
namespace Go.Proofs.YtmlikgjfpmjdcaaDoor
open Go.RowKit

theorem extsTo_len {n r : Nat} (h : ∀ cur, (exts n r cur).length ≤ 4 ^ r) (cur : List Int) : ∀ k, (extsTo n r cur k).length ≤ k * 4 ^ r
  | 0 => by simp [extsTo_zero]
  | k + 1 => by
    have ih := extsTo_len h cur k
    rw [extsTo_succ, List.length_append, Nat.add_mul]
    split
    · rw [List.length_nil]; omega
    · have := h (cur ++ [(k : Int)]); omega
theorem exts_len {n : Nat} (hn : n ≤ 4) : ∀ r cur, (exts n r cur).length ≤ 4 ^ r
  | 0, cur => by simp [exts]
  | r + 1, cur => by
    rw [exts_succ]
    have h1 := extsTo_len (exts_len hn r) cur n
    have h2 : n * 4 ^ r ≤ 4 * 4 ^ r := Nat.mul_le_mul_right _ hn
    rw [Nat.pow_succ, Nat.mul_comm (4 ^ r)]
    omega
def metTo (cur : List Int) (m : Int) (k : Nat) : Bool := (cur.take k).any (fun x => x == m)
theorem metTo_succ (cur : List Int) (m : Int) (k : Nat) (hk : k < cur.length) : metTo cur m (k + 1) = (metTo cur m k || (cur[k] == m)) := by
  rw [metTo, metTo, List.take_succ_eq_append_getElem hk, List.any_append]; simp
theorem metTo_all (cur : List Int) (m : Int) : metTo cur m cur.length = decide (m ∈ cur) := by
  rw [metTo, List.take_length]
  by_cases h : m ∈ cur
  · rw [decide_eq_true h, List.any_eq_true]; exact ⟨m, h, by simp⟩
  · rw [decide_eq_false h, List.any_eq_false]
    intro x hx
    simp only [beq_iff_eq]
    exact fun e => h (e ▸ hx)

end Go.Proofs.YtmlikgjfpmjdcaaDoor

/- Heads too many, sums, and whether a division fits years (mestaref08); conditions: as said. -/
namespace Go.Proofs.YtmlikgjfpmjdcaaDoor
open Go.RowKit

/-- By how many heads a herd is greater than what a mountain bears. -/
def overV (c : Com) (v : Nat) (m : Int) : Int := max 0 (her c.villages v - c.mountains.getD m.toNat 0)

end Go.Proofs.YtmlikgjfpmjdcaaDoor

/- All envy and all heads too many of a division (mestaref08.sums); conditions: valid commons of at most four mountains, a division. -/
namespace Go.Proofs.YtmlikgjfpmjdcaaDoor
open Go.RowKit

def rkS (vs : List Vil) (d : List Int) : Nat → Int
  | 0 => 0
  | k + 1 => rkS vs d k + rk vs k (d.getD k 0)
def ovS (c : Com) (d : List Int) : Nat → Int
  | 0 => 0
  | k + 1 => ovS c d k + overV c k (d.getD k 0)
def SuS (b : Nat) (vm vv : Value) (b1 o1 : Nat) (x : Nat) (w : World) : Prop := Blk b #[vm, vv] 25 w ∧ w.cell? ⟨b1, o1, none⟩ = some (.int .i64 x)
theorem SuS.drew {b : Nat} {vm vv : Value} {b1 o1 : Nat} {x : Nat} {w : World} (h : SuS b vm vv b1 o1 x w) : SuS b vm vv b1 o1 x w.drew := h

end Go.Proofs.YtmlikgjfpmjdcaaDoor

