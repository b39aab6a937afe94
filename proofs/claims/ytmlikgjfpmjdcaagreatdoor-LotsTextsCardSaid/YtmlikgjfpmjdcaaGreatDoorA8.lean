/- The contract of Swaps, of the library functions that Fair calls; conditions: as said at each. -/
import Derived.Test.YtmlikgjfpmjdcaaGreatDoorA7
import Derived.Maps.Own
import Derived.Maps.Views
import Derived.DeepKeys4
import Derived.Laws.CopyOwn
/- wanted (lots): the first two villages that want each other's places, by a map of wishes; conditions: as said. -/
namespace Go.Proofs.YtmlikgjfpmjdcaaGreatDoor
open Go.RowKit Go.Maps Go.WideMaps

theorem pairKeyed : Keyed Tryz.prog 96 := Keyed.of_law (deep_law_laid (P := Tryz.prog) (by kernel_rfl) (m := 2) (by omega) (of_decide_eq_true (by kernel_rfl)) (by kernel_rfl) (by kernel_rfl))
noncomputable def kl (i j : Nat) : Lit := (keyOf Tryz.prog 96 (.agg #[.int .i64 i, .int .i64 j])).getD (.bool false)
theorem kl_ok {i j : Nat} (hi : i < 4) (hj : j < 4) : keyOf Tryz.prog 96 (.agg #[.int .i64 i, .int .i64 j]) = some (kl i j) := by
  have h : ((List.range 4).all fun i => (List.range 4).all fun j => (keyOf Tryz.prog 96 (.agg #[.int .i64 i, .int .i64 j])).isSome) = true := by kernel_rfl
  have h2 := all_range (all_range h hi) hj
  rw [kl]
  cases hk : keyOf Tryz.prog 96 (.agg #[.int .i64 i, .int .i64 j]) with
  | some l => rfl
  | none => rw [hk] at h2; cases h2
theorem kl_ne {i j a b : Nat} (hi : i < 4) (hj : j < 4) (ha : a < 4) (hb : b < 4) (h : ¬ (a = i ∧ b = j)) : kl a b ≠ kl i j := by
  intro e
  have h1 := kl_ok hi hj
  rw [← e] at h1
  have h2 := pairKeyed.inj h1 (kl_ok ha hb)
  simp at h2
  omega
attribute [irreducible] kl
theorem under135 : Tryz.prog.underlying 122 = some (.map 96 4) := by kernel_rfl
theorem under4 : Tryz.prog.underlying 4 = some .bool := by kernel_rfl
theorem zero4 (w : World) : (zeroValue 4).run Tryz.prog w = .ok (.bool false) w := by kernel_rfl

/-- The block is a map of wishes. -/
def MapIs (w : World) (b n N : Nat) (f : Nat → Nat → Bool) : Prop :=
  ∃ D : DataW Unit, w.ownsMap Tryz.prog 96 (plainElem Tryz.prog 4) b n D ∧ IsMap D ∧ ∀ i j, i < N → j < N → D.atKey (kl i j) (.lit (.bool false)) = .lit (.bool (f i j))

theorem MapIs.new (w : World) (N : Nat) : MapIs (w.alloc (.map #[] 0)) w.heap.size 0 N (fun _ _ => false) :=
  ⟨.map [], World.ownsMap_made _ _ _ _, ⟨_, rfl⟩, fun _ _ _ _ => rfl⟩
theorem MapIs.put {w1 : World} {b n N : Nat} {f : Nat → Nat → Bool} {D : DataW Unit} {i j : Nat} {x : Bool} (hm : IsMap D) (hf : ∀ i j, i < N → j < N → D.atKey (kl i j) (.lit (.bool false)) = .lit (.bool (f i j)))
    (hN : N ≤ 4) (hi : i < N) (hj : j < N) (h : w1.ownsMap Tryz.prog 96 (plainElem Tryz.prog 4) b n (D.put (kl i j) (.lit (.bool x)))) :
    MapIs w1 b n N (fun a c => if a = i ∧ c = j then x else f a c) := by
  refine ⟨_, h, ?_, fun a c ha hc => ?_⟩
  · obtain ⟨es, rfl⟩ := hm; exact ⟨_, rfl⟩
  · by_cases e : a = i ∧ c = j
    · obtain ⟨rfl, rfl⟩ := e
      simp only [and_self, if_true]
      have hk : WideAt.IsKeyLit (kl a c) := pairKeyed.key (kl_ok (i := a) (j := c) (by omega) (by omega))
      exact atKey_put_same hm hk _ _
    · show _ = DataW.lit (Lit.bool (if a = i ∧ c = j then x else f a c))
      rw [if_neg e, ← hf a c ha hc]
      exact atKey_put_other (kl_ne (by omega) (by omega) (by omega) (by omega) e) _ _
theorem MapIs.look {w : World} {b n N : Nat} {f : Nat → Nat → Bool} (h : MapIs w b n N f) (hN : N ≤ 4) {i j : Nat} (hi : i < N) (hj : j < N) :
    (Instr.lookup 122 (.map (some b)) (.agg #[.int .i64 i, .int .i64 j]) false).run Tryz.prog w = .ok (.bool (f i j)) w := by
  obtain ⟨D, ho, hm, hf⟩ := h
  obtain ⟨v, ps, hrun, hv⟩ := ho.lookup pairKeyed under135 (zero4 w) (plainElem_bool under4 false) (kl_ok (i := i) (j := j) (by omega) (by omega))
  rw [hf i j hi hj] at hv
  have hvb : v = .bool (f i j) := by
    cases v <;> simp [plainElem] at hv
    rw [hv.1]
  rw [hrun, hvb]
theorem MapIs.kept {w w' : World} {b n N : Nat} {f : Nat → Nat → Bool} {row : Option Nat} (h : MapIs w b n N f) (hg : w.grownBy w' row) (hne : some b ≠ row) : MapIs w' b n N f := by
  obtain ⟨D, ho, hm, hf⟩ := h
  exact ⟨D, ho.kept hg hne, hm, hf⟩
theorem MapIs.qt {w w' : World} {b n N : Nat} {f : Nat → Nat → Bool} (h : MapIs w b n N f) (hq : Qt w w') : MapIs w' b n N f := by
  obtain ⟨k, rfl⟩ := hq
  exact h
theorem MapIs.congr {w : World} {b n N : Nat} {f g : Nat → Nat → Bool} (h : MapIs w b n N f) (e : ∀ i j, i < N → j < N → f i j = g i j) : MapIs w b n N g := by
  obtain ⟨D, ho, hm, hf⟩ := h
  exact ⟨D, ho, hm, fun i j hi hj => by rw [hf i j hi hj, e i j hi hj]⟩
theorem MapIs.more {w : World} {b n n' N : Nat} {f : Nat → Nat → Bool} (h : MapIs w b n N f) (hn : n ≤ n') : MapIs w b n' N f := by
  obtain ⟨D, ho, hm, hf⟩ := h
  exact ⟨D, ho.mono hn, hm, hf⟩

/-- Village i wants what village j holds. -/
def wish (vs : List Vil) (l : List Int) (i j : Nat) : Bool := decide (rk vs i (l.getD j 0) < rk vs i (l.getD i 0))
def both (vs : List Vil) (l : List Int) (i j : Nat) : Bool := wish vs l i j && wish vs l j i
/-- The first two in order that want each other's places. -/
def IsWant (vs : List Vil) (l : List Int) (p : Nat × Nat) : Prop :=
  (p = (0, 0) ∧ ∀ i j, i < j → j < l.length → both vs l i j = false) ∨
  (p.1 < p.2 ∧ p.2 < l.length ∧ both vs l p.1 p.2 = true ∧ (∀ i j, i < j → j < l.length → i < p.1 ∨ (i = p.1 ∧ j < p.2) → both vs l i j = false))

set_option maxRecDepth 100000 in
set_option maxHeartbeats 2000000 in
theorem wanted_c {A A' : Nat → Prop} {w : World} {wb : Nat} {vm vv vd : Value} {c : Com} {l : List Int} (hw : Blk wb #[vm, vv] 93 w) (h : Cm A w vm vv c) (hd : Ints A' w vd l) (hl4 : l.length ≤ 4) (hvl : c.villages.length = l.length) :
    Calls Tryz.prog 48 #[.pointer (some ⟨wb, 0, none⟩), vd] w fun e w' => ∃ p : Nat × Nat, e = .returned (.agg #[.int .i64 p.1, .int .i64 p.2]) ∧ IsWant c.villages l p ∧ Below w.heap.size w w' := by
  obtain ⟨ad, cpd, rfl, _, _⟩ := hd.shape
  have hmm := @run_makeMap Tryz.prog
  have HVL := Lib.hid hvl
  clear hvl
  go_enter Tryz.func48, Tryz.ntmps48
  have hl1 := hd.len
  have hB0 : Below w.heap.size w ((w.alloc (.cells #[.int .i64 0, .int .i64 0] 96)).alloc (.map #[] 0)) := ((Below.refl _ w).alloc (Nat.le_refl _) _).alloc (by simp) _
  have hm0 := MapIs.new (w.alloc (.cells #[.int .i64 0, .int .i64 0] 96)) l.length
  have hr0 : Blk w.heap.size #[.int .i64 0, .int .i64 0] 96 ((w.alloc (.cells #[.int .i64 0, .int .i64 0] 96)).alloc (.map #[] 0)) := (Blk.new w _ _).alloc _
  go_wp2
  generalize (w.alloc (.cells #[.int .i64 0, .int .i64 0] 96)).alloc (.map #[] 0) = w0 at *
  have hmb : (w.alloc (.cells #[.int .i64 0, .int .i64 0] 96)).heap.size = w.heap.size + 1 := by simp
  rw [hmb] at hm0
  go_loopw [17] (fun i wx => ∃ k : Nat, k ≤ l.length ∧ i = .int .i64 k ∧ MapIs wx (w.heap.size + 1) (k * 4) l.length (fun a c2 => decide (a < k) && wish c.villages l a c2) ∧ Blk w.heap.size #[.int .i64 0, .int .i64 0] 96 wx ∧ Below w.heap.size w wx) (fun i _ => l.length - (intOf i).toNat)
  case atStart => exact ⟨0, Nat.zero_le _, rfl, (hm0.congr fun i j _ _ => by simp), hr0, hB0⟩
  case round =>
    rename World => wa
    obtain ⟨k, hk, rfl, hM, hR, hB⟩ := hrel
    by_cases hlt : k < l.length
    · have hwk := hw.call hB
      have hck := h.call hB
      have hdk := hd.call hB
      obtain ⟨bd, od, rfl, -, -, -⟩ := hdk.addr (by omega)
      have gk := hdk.cell k hlt
      have hgk : l.getD k 0 = l[k] := by rw [List.getD_eq_getElem?_getD, List.getElem?_eq_getElem hlt]; rfl
      obtain ⟨x, hx⟩ : ∃ x, x = l[k] := ⟨_, rfl⟩
      rw [← hx] at gk hgk
      clear hx
      have HGK := Lib.hid hgk
      clear hgk
      go_wp2
      go_loopw [24] (fun i wx => ∃ j : Nat, j ≤ l.length ∧ i = .int .i64 j ∧ MapIs wx (w.heap.size + 1) (k * 4 + j) l.length (fun a c2 => (decide (a < k) || (decide (a = k) && decide (c2 < j))) && wish c.villages l a c2) ∧ Blk w.heap.size #[.int .i64 0, .int .i64 0] 96 wx ∧ Below w.heap.size w wx) (fun i _ => l.length - (intOf i).toNat)
      case atStart => exact ⟨0, Nat.zero_le _, rfl, (hM.congr fun i j _ _ => by simp), hR, hB⟩
      case round =>
        rename World => wy
        obtain ⟨j, hj, rfl, hM, hR, hB⟩ := hrel
        by_cases hjl : j < l.length
        · have hdy := hd.call hB
          have gj := hdy.cell j hjl
          have hgj : l.getD j 0 = l[j] := by rw [List.getD_eq_getElem?_getD, List.getElem?_eq_getElem hjl]; rfl
          obtain ⟨y, hy⟩ : ∃ y, y = l[j] := ⟨_, rfl⟩
          rw [← hy] at gj hgj
          clear hy
          have hwish : wish c.villages l k j = decide (rk c.villages k y < rk c.villages k x) := by rw [wish, hgj, HGK.out]
          have HW := Lib.hid hwish
          clear hgj hwish
          have hkv : k < c.villages.length := by have := HVL.out; omega
          have hWy := hw.call hB
          have hcy := (h.call hB).2
          go_wp2_with fail
          refine (prefers_c hWy hcy k hkv y x).mono ?_
          rintro e w2 ⟨rfl, hq⟩
          rw [← HW.out]
          have hM2 := hM.qt hq
          have hR2 : Blk w.heap.size #[.int .i64 0, .int .i64 0] 96 w2 := hR.keep (by rw [hq.heap])
          have hB2 := hB.trans (hq.below _)
          obtain ⟨D, ho, hIs, hf⟩ := hM2
          go_wp2_with (at_mapUpdate; refine wpList_mapUpdate_own _ rfl _ _ _ 122 rfl 96 4 pairKeyed under135 _ _ _ D rfl ho (by unfold maxLen; omega) _ _ (kl k j) rfl rfl (kl_ok (by omega) (by omega)) _ [] (plainElem_bool under4 _) ?_; intro w3 ho3 hg3)
          have hM3 := MapIs.put hIs hf hl4 hlt hjl ho3
          have hR3 : Blk w.heap.size #[.int .i64 0, .int .i64 0] 96 w3 := hR2.keep (hg3.block _ (by have := hR2.lt; omega) (by simp))
          have hB3 := hB2.grown hg3 hB2.size (fun q hq => by cases hq; omega)
          clear ho ho3 hIs hf
          go_wp2
          go_roundw
          case rel =>
            refine ⟨j + 1, by omega, by go_num, (hM3.more (by omega)).congr fun a b ha hb => ?_, hR3, hB3⟩
            by_cases e : a = k ∧ b = j
            · obtain ⟨rfl, rfl⟩ := e; simp
            · rw [if_neg e]
              by_cases e1 : a = k
              · have e2 : b ≠ j := fun h => e ⟨e1, h⟩
                have e3 : (b < j + 1) = (b < j) := by apply propext; omega
                simp [e1, e3]
              · simp [e1]
          case measure => simp [intOf]; omega
        · have hje : j = l.length := by omega
          go_wp2
          go_roundw
          case rel =>
            refine ⟨k + 1, by omega, by go_num, (hM.more (by omega)).congr fun a b ha hb => ?_, hR, hB⟩
            rw [hje]
            by_cases e1 : a < k
            · simp [e1, show a < k + 1 by omega]
            · by_cases e2 : a = k
              · simp [e2, hb]
              · simp [e1, e2, show ¬ a < k + 1 by omega]
          case measure => simp [intOf]; omega
    · have hke : k = l.length := by omega
      have hM1 : MapIs wa (w.heap.size + 1) (k * 4) l.length (wish c.villages l) := hM.congr fun a b ha hb => by simp [show a < k by omega]
      have hnn : Blk wa.heap.size #[.int .i64 0, .int .i64 0] 96 (wa.alloc (.cells #[.int .i64 0, .int .i64 0] 96)) := Blk.new wa _ _
      have hM2 := hM1.kept (World.grownBy_alloc wa (.cells #[.int .i64 0, .int .i64 0] 96) none) (by simp)
      have hR2 := hR.alloc (.cells #[.int .i64 0, .int .i64 0] 96)
      have hB2 := hB.alloc hB.size (.cells #[.int .i64 0, .int .i64 0] 96)
      have hszA : wa.heap.size < (wa.alloc (.cells #[.int .i64 0, .int .i64 0] 96)).heap.size := by simp
      have hszW := hR.lt
      clear hM hM1 hke hR hmm
      go_wp2
      go_loopw [42] (fun i wx => ∃ i' : Nat, i' ≤ l.length ∧ i = .int .i64 i' ∧ MapIs wx (w.heap.size + 1) (k * 4) l.length (wish c.villages l) ∧ Blk wa.heap.size #[.int .i64 0, .int .i64 0] 96 wx ∧ Blk w.heap.size #[.int .i64 0, .int .i64 0] 96 wx ∧ Below w.heap.size w wx ∧ (∀ a b, a < b → b < l.length → a < i' → both c.villages l a b = false)) (fun i _ => l.length - (intOf i).toNat)
      case atStart => exact ⟨0, Nat.zero_le _, rfl, hM2, hnn, hR2, hB2, fun a b _ _ h => by omega⟩
      case round =>
        rename World => wx
        obtain ⟨i, hi, rfl, hM, hN, hR, hB, hno⟩ := hrel
        have HNO := Lib.hid hno
        clear hno hM2 hnn hR2 hB2
        by_cases hlt : i < l.length
        · go_wp2
          go_loopw [12] (fun s wx => ∃ j : Nat, i < j ∧ j ≤ l.length ∧ s = .int .i64 j ∧ MapIs wx (w.heap.size + 1) (k * 4) l.length (wish c.villages l) ∧ Blk wa.heap.size #[.int .i64 0, .int .i64 0] 96 wx ∧ Blk w.heap.size #[.int .i64 0, .int .i64 0] 96 wx ∧ Below w.heap.size w wx ∧ (∀ a b, a < b → b < l.length → a < i ∨ (a = i ∧ b < j) → both c.villages l a b = false)) (fun s _ => l.length - (intOf s).toNat)
          case atStart => exact ⟨i + 1, by omega, by omega, by go_num, hM, hN, hR, hB, fun a b h1 h2 h3 => HNO.out a b h1 h2 (by omega)⟩
          case round =>
            rename World => wy
            obtain ⟨j, hij, hj, rfl, hM, hN, hR, hB, hno⟩ := hrel
            have HNO2 := Lib.hid hno
            clear hno
            by_cases hjl : j < l.length
            · go_upto_region 19 with fail
              have hN3 := hN.alloc (.cells #[.int .i64 i, .int .i64 j] 96)
              have hR3 := hR.alloc (.cells #[.int .i64 i, .int .i64 j] 96)
              have hP3 : Blk wy.heap.size #[.int .i64 i, .int .i64 j] 96 (wy.alloc (.cells #[.int .i64 i, .int .i64 j] 96)) := Blk.new wy _ _
              have hM3 := hM.kept (World.grownBy_alloc wy (.cells #[.int .i64 i, .int .i64 j] 96) none) (by simp)
              have hB3 := hB.alloc hB.size (.cells #[.int .i64 i, .int .i64 j] 96)
              generalize wy.alloc (.cells #[.int .i64 i, .int .i64 j] 96) = wz at *
              have p0 := hP3.cell 0
              have p1 := hP3.cell 1
              have n0 := hN3.cell 0
              have n1 := hN3.cell 1
              have lk1 := hM3.look hl4 (i := i) (j := j) (by omega) hjl
              have lk2 := hM3.look hl4 (i := j) (j := i) hjl (by omega)
              have r0 := hR3.free 0
              have r1 := hR3.free 1
              have x0 := hR3.cell 0
              have x1 := hR3.cell 1
              have e1 : ((j : Int) == 0) = false := beq_eq_false_iff_ne.2 (by omega)
              obtain ⟨b1, hb1⟩ : ∃ b1, b1 = wish c.villages l i j := ⟨_, rfl⟩
              obtain ⟨b2, hb2⟩ : ∃ b2, b2 = wish c.villages l j i := ⟨_, rfl⟩
              rw [← hb1] at lk1
              rw [← hb2] at lk2
              have HB1 := Lib.hid hb1
              have HB2 := Lib.hid hb2
              clear hb1 hb2
              cases b1
              · go_wp2
                go_roundw
                case rel =>
                  refine ⟨j + 1, by omega, by omega, by go_num, hM3, hN3, hR3, hB3, fun a b h1 h2 h3 => ?_⟩
                  by_cases e : a = i ∧ b = j
                  · obtain ⟨rfl, rfl⟩ := e; rw [both, ← HB1.out, Bool.false_and]
                  · exact HNO2.out a b h1 h2 (by omega)
                case measure => simp [intOf]; omega
              · cases b2
                · go_wp2
                  go_roundw
                  case rel =>
                    refine ⟨j + 1, by omega, by omega, by go_num, hM3, hN3, hR3, hB3, fun a b h1 h2 h3 => ?_⟩
                    by_cases e : a = i ∧ b = j
                    · obtain ⟨rfl, rfl⟩ := e; rw [both, ← HB2.out, Bool.and_false]
                    · exact HNO2.out a b h1 h2 (by omega)
                  case measure => simp [intOf]; omega
                · go_wp2
                  have hres := two_set hR3 (.int .i64 i) (.int .i64 j)
                  have d0 := Blk.cell hres 0
                  have d1 := Blk.cell hres 1
                  exact bodyPost_ret (v := .agg #[.int .i64 i, .int .i64 j]) (by simp [results, Tryz.results48, go_sem, d0, d1]) rfl ⟨(i, j), rfl, .inr ⟨hij, hjl, by rw [both, ← HB1.out, ← HB2.out]; rfl, HNO2.out⟩, (hB3.setCell (Nat.le_refl _) _).setCell (Nat.le_refl _) _⟩
            · go_wp2
              go_roundw
              case rel => exact ⟨i + 1, by omega, by go_num, hM, hN, hR, hB, fun a b h1 h2 h3 => HNO2.out a b h1 h2 (by omega)⟩
              case measure => simp [intOf]; omega
        · have n0 := hN.cell 0
          have n1 := hN.cell 1
          have r0 := hR.free 0
          have r1 := hR.free 1
          have x0 := hR.cell 0
          have x1 := hR.cell 1
          go_wp2
          have hres := two_set hR (.int .i64 0) (.int .i64 0)
          have d0 := Blk.cell hres 0
          have d1 := Blk.cell hres 1
          exact bodyPost_ret (v := .agg #[.int .i64 0, .int .i64 0]) (by simp [results, Tryz.results48, go_sem, d0, d1]) rfl ⟨(0, 0), rfl, .inl ⟨rfl, fun a b h1 h2 => HNO.out a b h1 h2 (by omega)⟩, (hB.setCell (Nat.le_refl _) _).setCell (Nat.le_refl _) _⟩

end Go.Proofs.YtmlikgjfpmjdcaaGreatDoor

/- Exchanges in plain words: who wants, the exchange, that it ends; slices of slices that the call makes; conditions: as said. -/
namespace Go.Proofs.YtmlikgjfpmjdcaaGreatDoor
open Go.RowKit

def wantK (vs : List Vil) (l : List Int) (k : Nat) : Bool := decide (k / l.length < k % l.length) && both vs l (k / l.length) (k % l.length)
def wantF (vs : List Vil) (l : List Int) : Nat × Nat :=
  match (List.range (l.length * l.length)).find? (wantK vs l) with
  | some k => (k / l.length, k % l.length)
  | none => (0, 0)
theorem div_at {n i j : Nat} (hj : j < n) : (i * n + j) / n = i ∧ (i * n + j) % n = j := by
  have hn : 0 < n := by omega
  constructor
  · rw [Nat.mul_comm, Nat.mul_add_div hn, Nat.div_eq_of_lt hj, Nat.add_zero]
  · rw [Nat.mul_comm, Nat.mul_add_mod, Nat.mod_eq_of_lt hj]
theorem at_lt {n i j : Nat} (hi : i < n) (hj : j < n) : i * n + j < n * n := by
  have : (i + 1) * n ≤ n * n := Nat.mul_le_mul_right n hi
  rw [Nat.add_mul, Nat.one_mul] at this
  omega
theorem wantF_is (vs : List Vil) (l : List Int) : IsWant vs l (wantF vs l) := by
  rw [wantF]
  split
  · rename_i k hk
    have h1 := List.find?_some hk
    rw [List.find?_range_eq_some] at hk
    obtain ⟨_, hk2, hk3⟩ := hk
    have hk4 : k < l.length * l.length := by simpa using hk2
    have hn : 0 < l.length := by
      cases h0 : l.length with
      | zero => rw [h0] at hk4; omega
      | succ => omega
    rw [wantK, Bool.and_eq_true, decide_eq_true_eq] at h1
    refine .inr ⟨h1.1, Nat.mod_lt _ hn, h1.2, fun i j hij hj hlt => ?_⟩
    have hlt2 : i * l.length + j < k := by
      have hdm := Nat.div_add_mod k l.length
      rw [Nat.mul_comm] at hdm
      rcases hlt with h | ⟨h, h'⟩
      · have := Nat.mul_le_mul_right l.length (show i + 1 ≤ k / l.length from h)
        rw [Nat.add_mul, Nat.one_mul] at this
        simp only at *
        omega
      · simp only at h h'
        rw [h]; omega
    have h3 := hk3 _ hlt2
    obtain ⟨d1, d2⟩ := div_at (i := i) hj
    rw [wantK, d1, d2] at h3
    simpa [hij] using h3
  · rename_i hk
    rw [List.find?_eq_none] at hk
    refine .inl ⟨rfl, fun i j hij hj => ?_⟩
    have h3 := hk (i * l.length + j) (by simpa using at_lt (by omega) hj)
    obtain ⟨d1, d2⟩ := div_at (i := i) hj
    rw [wantK, d1, d2] at h3
    simpa [hij] using h3
theorem IsWant.unique {vs : List Vil} {l : List Int} {p q : Nat × Nat} (h : IsWant vs l p) (k : IsWant vs l q) : p = q := by
  obtain ⟨p1, p2⟩ := p
  obtain ⟨q1, q2⟩ := q
  rcases h with ⟨e, h⟩ | ⟨h1, h2, h3, h4⟩ <;> rcases k with ⟨e', k⟩ | ⟨k1, k2, k3, k4⟩
  · rw [e, e']
  · rw [h _ _ k1 k2] at k3; cases k3
  · rw [k _ _ h1 h2] at h3; cases h3
  · simp only at *
    by_cases e1 : p1 = q1
    · subst e1
      by_cases e2 : p2 = q2
      · rw [e2]
      · rcases Nat.lt_or_gt_of_ne e2 with h | h
        · rw [k4 _ _ h1 h2 (.inr ⟨rfl, h⟩)] at h3; cases h3
        · rw [h4 _ _ k1 k2 (.inr ⟨rfl, h⟩)] at k3; cases k3
    · rcases Nat.lt_or_gt_of_ne e1 with h | h
      · rw [k4 _ _ h1 h2 (.inl h)] at h3; cases h3
      · rw [h4 _ _ k1 k2 (.inl h)] at k3; cases k3

def swapAt (l : List Int) (p : Nat × Nat) : List Int := (l.set p.1 (l.getD p.2 0)).set p.2 (l.getD p.1 0)
def swapsN (vs : List Vil) : Nat → List Int → List (List Int) → List (List Int) × List Int
  | 0, l, out => (out, l)
  | k + 1, l, out => if wantF vs l = (0, 0) then (out, l) else swapsN vs k (swapAt l (wantF vs l)) (out ++ [[((wantF vs l).1 : Int), ((wantF vs l).2 : Int)]])
def pot (vs : List Vil) (l : List Int) : Nat := ((List.range l.length).map (fun v => (rk vs v (l.getD v 0)).toNat)).sum
def swapsF (vs : List Vil) (l : List Int) : List (List Int) × List Int := swapsN vs (pot vs l) l []

theorem swapAt_len (l : List Int) (p : Nat × Nat) : (swapAt l p).length = l.length := by simp [swapAt]
theorem swapAt_at (l : List Int) {i j : Nat} (hij : i < j) (hj : j < l.length) (v : Nat) : (swapAt l (i, j)).getD v 0 = if v = i then l.getD j 0 else if v = j then l.getD i 0 else l.getD v 0 := by
  simp only [swapAt, List.getD_eq_getElem?_getD, List.getElem?_set]
  by_cases e1 : v = j
  · subst e1
    have : v ≠ i := by omega
    simp [this, hj]
  · have : ¬ j = v := fun e => e1 e.symm
    by_cases e2 : v = i
    · subst e2
      simp [this, show v < l.length by omega]
    · have h2 : ¬ i = v := fun e => e2 e.symm
      simp [this, h2, e1, e2]
theorem getD_mem {l : List Int} {i : Nat} (h : i < l.length) : l.getD i 0 ∈ l := by
  rw [List.getD_eq_getElem?_getD, List.getElem?_eq_getElem h]; exact List.getElem_mem h
theorem swapAt_perm {n : Nat} {l : List Int} (h : PermOf n l) {i j : Nat} (hij : i < j) (hj : j < l.length) : PermOf n (swapAt l (i, j)) := by
  rw [permOf_iff]
  have hl := (permOf_iff n l).1 h
  have hgd : ∀ (m : List Int) v (a : v < m.length), m[v] = m.getD v 0 := fun m v a => by rw [List.getD_eq_getElem?_getD, List.getElem?_eq_getElem a]; rfl
  have inj : ∀ a b, a < l.length → b < l.length → l.getD a 0 = l.getD b 0 → a = b := fun a b ha hb e => by
    rw [← hgd l a ha, ← hgd l b hb] at e
    exact (List.getElem_inj hl.2.2).1 e
  refine ⟨by rw [swapAt_len]; exact hl.1, fun x hx => ?_, ?_⟩
  · obtain ⟨v, hv, rfl⟩ := List.getElem_of_mem hx
    have hv2 := hv
    rw [swapAt_len] at hv2
    rw [hgd _ v hv, swapAt_at l hij hj]
    split
    · exact hl.2.1 _ (getD_mem hj)
    · split
      · exact hl.2.1 _ (getD_mem (by omega))
      · exact hl.2.1 _ (getD_mem hv2)
  · rw [List.Nodup, List.pairwise_iff_getElem]
    intro a b ha hb hab e
    rw [hgd _ a ha, hgd _ b hb, swapAt_at l hij hj, swapAt_at l hij hj] at e
    rw [swapAt_len] at ha hb
    split at e
    · split at e
      · omega
      · split at e
        · have := inj _ _ hj (by omega) e; omega
        · have := inj _ _ hj hb e; omega
    · split at e
      · split at e
        · have := inj _ _ (by omega) hj e; omega
        · split at e
          · omega
          · have := inj _ _ (by omega) hb e; omega
      · split at e
        · have := inj _ _ ha hj e; omega
        · split at e
          · have := inj _ _ ha (by omega) e; omega
          · have := inj _ _ ha hb e; omega

theorem sum_less {f g : Nat → Nat} : ∀ (L : List Nat), (∀ x ∈ L, f x ≤ g x) → (∃ x ∈ L, f x < g x) → (L.map f).sum < (L.map g).sum
  | [], _, h => by obtain ⟨x, hx, _⟩ := h; cases hx
  | a :: t, h, ⟨x, hx, hlt⟩ => by
    simp only [List.map_cons, List.sum_cons]
    have ha := h a (List.mem_cons_self ..)
    have hle : ∀ (L : List Nat), (∀ x ∈ L, f x ≤ g x) → (L.map f).sum ≤ (L.map g).sum := by
      intro L
      induction L with
      | nil => intro _; exact Nat.le_refl _
      | cons a t ih => intro hh; simp only [List.map_cons, List.sum_cons]; exact Nat.add_le_add (hh _ (List.mem_cons_self ..)) (ih fun x hx => hh x (List.mem_cons_of_mem _ hx))
    rcases List.mem_cons.1 hx with rfl | hx
    · have := hle t fun x hx => h x (List.mem_cons_of_mem _ hx)
      omega
    · have := sum_less t (fun x hx => h x (List.mem_cons_of_mem _ hx)) ⟨x, hx, hlt⟩
      omega
theorem rk_nonneg {vs : List Vil} {l : List Int} (hlk : ∀ v ∈ vs, PermOf l.length v.likes) (hv : vs.length = l.length) (hp : PermOf l.length l) {v i : Nat} (hvl : v < l.length) (hi : i < l.length) : 0 ≤ rk vs v (l.getD i 0) := by
  rw [rk_at (by omega), placeOf_nonneg, (hlk _ (List.getElem_mem (by omega))).mem, ← hp.mem]
  exact getD_mem hi
theorem pot_swap {vs : List Vil} {l : List Int} (hlk : ∀ v ∈ vs, PermOf l.length v.likes) (hv : vs.length = l.length) (hp : PermOf l.length l) {i j : Nat} (hij : i < j) (hj : j < l.length) (hb : both vs l i j = true) : pot vs (swapAt l (i, j)) < pot vs l := by
  rw [pot, pot, swapAt_len]
  rw [both, Bool.and_eq_true, wish, wish, decide_eq_true_eq, decide_eq_true_eq] at hb
  have n1 := rk_nonneg hlk hv hp (v := i) (i := j) (by omega) hj
  have n2 := rk_nonneg hlk hv hp (v := j) (i := i) hj (by omega)
  refine sum_less _ (fun x hx => ?_) ⟨i, by simp; omega, ?_⟩
  · rw [swapAt_at l hij hj]
    split
    · rename_i e; subst e; omega
    · split
      · rename_i e; subst e; omega
      · exact Nat.le_refl _
  · rw [swapAt_at l hij hj, if_pos rfl]; omega

/-- A slice of slices that the call has made; its rows lie apart from it. -/
def GOwn (B : Nat) (w : World) (v : Value) (out : List (List Int)) : Prop :=
  ∃ vs : List Value, vs.length = out.length ∧ Own B w 22 1 v out.length vs ∧ ∀ i (a : i < vs.length) (b : i < out.length), Ints (fun k => B ≤ k ∧ v.ownBlock ≠ some k) w vs[i] out[i]
theorem GOwn.nil (B : Nat) (w : World) : GOwn B w (.slice none 0 0) [] := ⟨[], rfl, Own.nil, fun i a => by simp at a⟩
theorem GOwn.step {B : Nat} {w w' : World} {v : Value} {out : List (List Int)} (h : GOwn B w v out) (hs : w.heap.size ≤ w'.heap.size) (hb : ∀ k, B ≤ k → k < w.heap.size → w'.heap[k]? = w.heap[k]?) : GOwn B w' v out := by
  obtain ⟨vs, h1, h2, h3⟩ := h
  exact ⟨vs, h1, h2.step fun k _ hk hl => hb k hk hl, fun i a b => (h3 i a b).step hs fun k hk hl => hb k hk.1 hl⟩
theorem GOwn.call {B : Nat} {w w' : World} {v : Value} {out : List (List Int)} (h : GOwn B w v out) (hB : Below w.heap.size w w') : GOwn B w' v out := h.step hB.size fun k _ hl => hB.block k hl
theorem GOwn.grid {B : Nat} {w : World} {v : Value} {out : List (List Int)} (h : GOwn B w v out) : Grid (fun k => B ≤ k) w v out := by
  obtain ⟨vs, h1, h2, h3⟩ := h
  exact ⟨vs, h1, h2.arr, fun i a b => (h3 i a b).wide fun k hk _ => hk.1⟩
theorem gpush {B : Nat} {w w3 : World} {v v' : Value} {out : List (List Int)} {vs : List Value} (h1 : vs.length = out.length) (h2 : Own B w 22 1 v out.length vs)
    (h3 : ∀ i (a : i < vs.length) (b : i < out.length), Ints (fun k => B ≤ k ∧ v.ownBlock ≠ some k) w vs[i] out[i]) (hs : B ≤ w.heap.size) (x y : Int)
    (ho : Own B w3 22 1 v' (out.length + 1) (vs ++ [.slice (some ⟨w.heap.size, 0, none⟩) 2 2]))
    (hT : Turned ((w.alloc (.cells #[.int .i64 x, .int .i64 y] 3)).alloc (.cells #[.slice (some ⟨w.heap.size, 0, none⟩) 2 2] 22)) w3 v v') : GOwn B w3 v' (out ++ [[x, y]]) := by
  have hsz : ((w.alloc (.cells #[.int .i64 x, .int .i64 y] 3)).alloc (.cells #[.slice (some ⟨w.heap.size, 0, none⟩) 2 2] 22)).heap.size = w.heap.size + 2 := by simp
  have hpl : ∀ k, k < w.heap.size + 2 → v.ownBlock ≠ some k → v'.ownBlock ≠ some k := fun k hk hv e => by
    rcases hT.place with e1 | e1
    · exact hv (e1 ▸ e)
    · rw [e1, hsz] at e; simp at e; omega
  have hs3 : w.heap.size + 2 ≤ w3.heap.size := by have := hT.size; omega
  refine ⟨vs ++ [.slice (some ⟨w.heap.size, 0, none⟩) 2 2], by simp [h1], by simpa using ho, fun i a b => ?_⟩
  by_cases hi : i < vs.length
  · rw [List.getElem_append_left hi, List.getElem_append_left (by omega)]
    refine (((h3 i hi (by omega)).wide (A' := fun k => B ≤ k ∧ v.ownBlock ≠ some k ∧ k < w.heap.size) fun k hk hl => ⟨hk.1, hk.2, hl⟩).step (w' := w3) (by omega) fun k hk hl => ?_).wide fun k hk hl => ⟨hk.1, hpl k (by omega) hk.2.1⟩
    rw [hT.block k (by omega) hk.2.1, Below.heap_alloc _ _ k (by simp; omega), Below.heap_alloc _ _ k hl]
  · have hie : i = vs.length := by simp at a; omega
    subst hie
    have e1 : (vs ++ [Value.slice (some ⟨w.heap.size, 0, none⟩) 2 2])[vs.length] = .slice (some ⟨w.heap.size, 0, none⟩) 2 2 := by simp
    have e2 : (out ++ [[x, y]])[vs.length] = [x, y] := by simp [h1]
    rw [e1, e2]
    have hvn : v.ownBlock ≠ some w.heap.size := fun e => by have := (h2.lt _ e).2; omega
    have hI : IntBlk (w.alloc (.cells #[.int .i64 x, .int .i64 y] 3)) w.heap.size [x, y] := heap_alloc_new w _
    have hI2 : IntBlk w3 w.heap.size [x, y] := (hI.alloc _).step (hT.block _ (by omega) hvn)
    exact (hI2.ints (by simp)).wide fun k hk _ => by subst hk; exact ⟨hs, hpl _ (by omega) hvn⟩

end Go.Proofs.YtmlikgjfpmjdcaaGreatDoor

/- The contract of Swaps (lots) behind begin; conditions: as said. -/
namespace Go.Proofs.YtmlikgjfpmjdcaaGreatDoor
open Go.RowKit

theorem Tryz.under48 : Tryz.prog.underlying 48 = some (.slice 22) := by kernel_rfl
theorem Tryz.size3 : (Tryz.prog.info? 3).map (·.size) = some 1 := by kernel_rfl
theorem src_at {A : Nat → Prop} {w : World} {b o n cap : Nat} {l : List Int} (h : Ints A w (.slice (some ⟨b, o, none⟩) n cap) l) : ∀ j v, (I64 l)[j]? = some v → w.cell? ((⟨b, o, none⟩ : Addr).add j) = some v := by
  intro j v hv
  have hj : j < l.length := by
    by_cases hj : j < l.length
    · exact hj
    · rw [List.getElem?_eq_none (by rw [I64_len]; omega)] at hv; cases hv
  rw [I64_at l j hj] at hv
  cases hv
  have hplain : (⟨b, o, none⟩ : Addr).add j = ⟨b, o + j, none⟩ := by unfold Addr.add; split <;> simp_all
  rw [hplain]
  exact h.cell j hj
theorem swapsN_stop {vs : List Vil} {l : List Int} (h : wantF vs l = (0, 0)) : ∀ k out, swapsN vs k l out = (out, l)
  | 0, _ => rfl
  | k + 1, out => by rw [swapsN, if_pos h]
theorem placeOf_le (l : List Int) (x : Int) : placeOf l x ≤ l.length := by
  by_cases h : x ∈ l
  · have := placeOf_bd h; omega
  · have := Int.not_le.1 (fun h2 => h ((placeOf_nonneg l x).1 h2)); omega
theorem pot_le (vs : List Vil) (l : List Int) (hlk : ∀ v ∈ vs, PermOf l.length v.likes) : pot vs l ≤ l.length * l.length := by
  have h : ∀ (L : List Nat) (f : Nat → Nat), (∀ x, f x ≤ l.length) → (L.map f).sum ≤ L.length * l.length := by
    intro L f hf
    induction L with
    | nil => simp
    | cons a t ih => simp only [List.map_cons, List.sum_cons, List.length_cons]; have := hf a; rw [Nat.add_mul, Nat.one_mul]; omega
  have h2 := h (List.range l.length) (fun v => (rk vs v (l.getD v 0)).toNat) fun x => by
    show (rk vs x (l.getD x 0)).toNat ≤ l.length
    rw [rk]
    by_cases hx : x < vs.length
    · have e : (vs.getD x ⟨0, 0, []⟩) = vs[x] := by simp [hx]
      have h3 := placeOf_le vs[x].likes (l.getD x 0)
      rw [e]
      have := (hlk _ (List.getElem_mem hx)).len
      omega
    · have e : (vs.getD x ⟨0, 0, []⟩) = ⟨0, 0, []⟩ := by simp [hx]
      have h3 := placeOf_le [] (l.getD x 0)
      rw [e]
      simp at h3 ⊢
      omega
  simpa [pot] using h2
def sliceLen : Value → Nat
  | .slice _ n _ => n
  | _ => 0
theorem ints_one' (l : List Int) : ∀ v ∈ I64 l, v.oneCell' = true := ints_one l

set_option maxRecDepth 100000 in
set_option maxHeartbeats 4000000 in
theorem swaps_good {A A' : Nat → Prop} {w : World} {vm vv vd : Value} {c : Com} {l : List Int} (h : Cm A w vm vv c) (hd : Ints A' w vd l) (he : divE c l = 0) :
    Calls Tryz.prog 19 #[.agg #[vm, vv], vd] w fun e w' => ∃ v1 v2, e = .returned (.tuple #[v1, v2, .int .i64 0]) ∧ Grid (fun b => w.heap.size ≤ b) w' v1 (swapsF c.villages l).1 ∧ Ints (fun b => w.heap.size ≤ b) w' v2 (swapsF c.villages l).2 ∧ Below w.heap.size w w' := by
  obtain ⟨am, cpm, rfl, _, _⟩ := h.1.shape
  obtain ⟨av, cpv, rfl, _, _⟩ := h.2.shape
  obtain ⟨ad, cpd, rfl, _, _⟩ := hd.shape
  obtain ⟨hok, hp⟩ := divE_ok he
  have hol := hp.len
  have hn1 : 0 < l.length := by have := hok.n1; omega
  have hn4 : l.length ≤ 4 := by have := hok.n2; omega
  have hvl : c.villages.length = l.length := by have := hok.vl; omega
  obtain ⟨bd, od, rfl, -, -, -⟩ := hd.addr hn1
  have hlk : ∀ v ∈ c.villages, PermOf l.length v.likes := fun v hv => by rw [hol]; exact (hok.vil v hv).2.2.2.2
  rw [← hol] at hp
  have hB0 : Below w.heap.size w (w.alloc (.cells #[.slice am c.mountains.length cpm, .slice av c.villages.length cpv] 25)) := (Below.refl _ w).alloc (Nat.le_refl _) _
  have h0 := h.call hB0
  have hd0 := hd.call hB0
  have hmk := make_ints_fact l.length (by omega)
  have b0 : ((0 : Int) != 0) = false := rfl
  have HOL := Lib.hid hol
  have HVL := Lib.hid hvl
  have HE := Lib.hid he
  have HP := Lib.hid hp
  have HLK := Lib.hid hlk
  clear hol hvl he hp hlk
  go_enter Tryz.func19, Tryz.ntmps19
  go_wp2_with fail
  refine (begin_ok h0 hd0 HE.out).mono ?_
  rintro e w1 ⟨gw, rfl, hW, hgw, hB1⟩
  have h1 := h0.call hB1
  have hd1 := hd0.call hB1
  have hB2 := hB0.trans (hB1.mono hB0.size)
  have hws := hB2.size
  clear h0 hd0 hB0 hB1
  go_upto_region 5 with fail
  have hI2 := intBlk_made w1 l.length
  have hB3 : Below w1.heap.size w1 (w1.alloc (.cells (I64 (List.replicate l.length 0)).toArray 3)) := (Below.refl _ w1).alloc (Nat.le_refl _) _
  generalize w1.alloc (.cells (I64 (List.replicate l.length 0)).toArray 3) = w2 at *
  have hd2 := hd1.call hB3
  obtain ⟨g, hg⟩ : ∃ g, g = w1.heap.size := ⟨_, rfl⟩
  rw [← hg] at hI2 ⊢
  have HG := Lib.hid hg
  clear hg
  have hgl := hI2.lt
  have hsrc := src_at hd2
  go_wp2_with (refine wpList_copy_splice (o := ⟨some 25, _, _, _, _, _⟩) rfl _ _ 22 22 rfl 3 Tryz.underlying22 Tryz.size3 _ _ _ _ _ _ rfl rfl g 0 (I64 (List.replicate l.length 0)) 3 hI2 (I64 l) (by rw [I64_len]; exact (Nat.min_self _).symm) (fun _ => ⟨rfl, _, rfl, hsrc⟩) (by simp [I64_len]) (ints_one' l) w1.heap.size w1 hB3 (Nat.le_of_eq HG.out.symm) ?_; intro w3 hI3 hB4)
  have hI3' : IntBlk w3 g l := by
    have hh := hI3.out
    have e : splice (I64 (List.replicate l.length 0)) 0 (I64 l) = I64 l := by
      rw [splice, List.take_zero, List.nil_append, List.drop_eq_nil_of_le (by simp [I64_len]), List.append_nil]
    rw [e] at hh
    exact hh
  have hm1 : l.length ≤ 1000000 := by omega
  have hg1 : w1.heap.size ≤ g := Nat.le_of_eq HG.out.symm
  have hw3g : g < w3.heap.size := hI3'.lt
  have hvl3 : c.villages.length = l.length := HVL.out
  refine (wanted_c (hW.call hB4) (h1.call hB4) (hI3'.ints hm1) hn4 hvl3).mono ?_
  rintro e w4 ⟨p, rfl, hp, hB5⟩
  clear hvl3
  have hpw := IsWant.unique hp (wantF_is _ _)
  have hI4 := hI3'.call hB5
  have hB6 := hB4.trans (hB5.mono hB4.size)
  have hPW := Lib.hid hpw
  have HP4 := Lib.hid hp
  clear hpw hI3 hI3' hB5 hI2 hB3 hd2 hsrc hmk hp
  obtain ⟨B, hBe⟩ : ∃ B, B = w4.heap.size := ⟨_, rfl⟩
  have hgB : g < B := by rw [hBe]; exact hI4.lt
  have hB7 : Below w1.heap.size w1 (w4.alloc (.cells #[.int .i64 p.1, .int .i64 p.2] 96)) := hB6.alloc hB6.size _
  have hPb : Blk w4.heap.size #[.int .i64 p.1, .int .i64 p.2] 96 (w4.alloc (.cells #[.int .i64 p.1, .int .i64 p.2] 96)) := Blk.new w4 _ _
  have hI7 := hI4.alloc (.cells #[.int .i64 p.1, .int .i64 p.2] 96)
  have hw1B : w1.heap.size ≤ B := by rw [hBe]; exact hB6.size
  have hBs : B ≤ (w4.alloc (.cells #[.int .i64 p.1, .int .i64 p.2] 96)).heap.size := by rw [hBe]; simp
  go_wp2
  go_loopw [4, 8] (fun s4 s8 wx => ∃ (pb : Nat) (p : Nat × Nat) (l2 : List Int) (out : List (List Int)) (kk : Nat), s8 = .pointer (some ⟨pb, 0, none⟩) ∧ IsWant c.villages l2 p ∧ l2.length = l.length ∧ PermOf l.length l2 ∧ swapsN c.villages kk l2 out = swapsF c.villages l ∧ pot c.villages l2 ≤ kk ∧ out.length + kk ≤ pot c.villages l ∧ Blk pb #[.int .i64 p.1, .int .i64 p.2] 96 wx ∧ s4.ownBlock ≠ some pb ∧ B ≤ pb ∧ IntBlk wx g l2 ∧ GOwn B wx s4 out ∧ B ≤ wx.heap.size ∧ Below w1.heap.size w1 wx) (fun s4 _ _ => pot c.villages l - sliceLen s4)
  case atStart => exact ⟨_, p, l, [], pot c.villages l, rfl, HP4.out, rfl, HP.out, rfl, Nat.le_refl _, by simp, hPb, by simp [Value.ownBlock], by omega, hI7, GOwn.nil _ _, hBs, hB7⟩
  case round =>
    rename World => wa
    obtain ⟨pb, p, l2, out, kk, rfl, hpw, hl2, hp2, htr, hpk, hpot, hPb, hnp, hBpb, hI, hG, hBs, hB⟩ := hrel
    have hpe := IsWant.unique hpw (wantF_is _ _)
    have hpl : pot c.villages l ≤ 16 := Nat.le_trans (pot_le c.villages l HLK.out) (Nat.mul_le_mul hn4 hn4)
    have HTR := Lib.hid htr
    have HPE := Lib.hid hpe
    have HP2 := Lib.hid hp2
    clear htr hpe hp2
    by_cases hz : p = (0, 0)
    · subst hz
      have hst := swapsN_stop HPE.out.symm kk out
      rw [HTR.out] at hst
      have HST := Lib.hid hst
      clear hst
      have hPb' : Blk pb #[.int .i64 0, .int .i64 0] 96 wa := hPb
      clear hPb
      have c0 := hPb'.cell 0
      have c1 := hPb'.cell 1
      go_wp2
      go_ret3
      refine ⟨_, _, rfl, ?_, ?_, hB2.trans (hB.mono hB2.size)⟩
      · rw [HST.out]; exact hG.grid.wide fun k hk _ => by omega
      · rw [HST.out]
        have h3 := hI.ints (by omega)
        rw [hl2] at h3
        exact h3.wide fun k hk _ => by omega
    · obtain ⟨i, j⟩ := p
      obtain ⟨hij, hjl, hbo, hfst⟩ : i < j ∧ j < l2.length ∧ both c.villages l2 i j = true ∧ True := by
        rcases hpw with ⟨h, _⟩ | ⟨h1, h2, h3, _⟩
        · exact absurd h hz
        · exact ⟨h1, h2, h3, trivial⟩
      have hil : i < l2.length := by omega
      have hil2 : i < l.length := by omega
      have hjl2 : j < l.length := by omega
      have hPb' : Blk pb #[.int .i64 (i : Nat), .int .i64 (j : Nat)] 96 wa := hPb
      clear hPb
      have c0 := hPb'.cell 0
      have c1 := hPb'.cell 1
      have hps := pot_swap (vs := c.villages) (l := l2) (by rw [hl2]; exact HLK.out) (by have := HVL.out; omega) (by rw [hl2]; exact HP2.out) hij hjl hbo
      obtain ⟨k, hk⟩ : ∃ k, kk = k + 1 := ⟨kk - 1, by omega⟩
      have htr2 := HTR.out
      have hne : wantF c.villages l2 ≠ (0, 0) := by rw [← HPE.out]; exact hz
      have hsl := swapAt_len l2 (i, j)
      have hsp := swapAt_perm HP2.out hij hjl
      have HPS := Lib.hid hps
      have HSP := Lib.hid hsp
      have HSL := Lib.hid hsl
      have HNE := Lib.hid hne
      have HK := Lib.hid hk
      clear htr2 hne hsl hsp hps hk hfst hbo hpw
      have e1 : ((j : Int) == 0) = false := beq_eq_false_iff_ne.2 (by omega)
      obtain ⟨x, hx⟩ : ∃ x, x = l2[i] := ⟨_, rfl⟩
      obtain ⟨y, hy⟩ : ∃ y, y = l2[j] := ⟨_, rfl⟩
      have HX := Lib.hid hx
      have HY := Lib.hid hy
      clear hx hy
      obtain ⟨vs, hvs1, ho, hrows⟩ := hG
      obtain ⟨ao, cp, rfl⟩ := own_slice ho
      have ho2 := Own.alloc (Own.alloc ho (.cells #[.int .i64 i, .int .i64 j] 3)) (.cells #[.slice (some ⟨wa.heap.size, 0, none⟩) 2 2] 22)
      have ha := arr_one (wa.alloc (.cells #[.int .i64 i, .int .i64 j] 3)) 22 (.slice (some ⟨wa.heap.size, 0, none⟩) 2 2)
      have hsz2 : (wa.alloc (.cells #[.int .i64 i, .int .i64 j] 3)).heap.size = wa.heap.size + 1 := by simp
      rw [hsz2] at ha
      have hlg := hI.lt
      have hlp := hPb'.lt
      go_wp2_with (at_builtin; refine wpList_append_arr rfl _ _ 48 rfl 22 (.slice none 0 0) 1 24 Tryz.under48 Tryz.info22 rfl (by decide) (by decide) (by simp; omega) ho2 rfl ha rfl rfl (one_slice _ _ _) (by omega) ?_; intro v' w4 hown hT)
      have ho4 : Own B w4 22 1 v' (out.length + 1) (vs ++ [.slice (some ⟨wa.heap.size, 0, none⟩) 2 2]) := hown
      have hvs : sliceLen v' = out.length + 1 := by
        obtain ⟨ao', cp', hv'⟩ := own_slice ho4
        rw [hv']; rfl
      have HVS := Lib.hid hvs
      clear hvs
      have hG4 := gpush hvs1 ho hrows hBs (i : Int) (j : Int) ho4 hT
      have hvlt : ∀ q, (Value.slice ao out.length cp).ownBlock = some q → B ≤ q ∧ q < wa.heap.size := fun q hq => ho.lt q hq
      have hsa : ((wa.alloc (.cells #[.int .i64 i, .int .i64 j] 3)).alloc (.cells #[.slice (some ⟨wa.heap.size, 0, none⟩) 2 2] 22)).heap.size = wa.heap.size + 2 := by simp
      have hPb4 : Blk pb #[.int .i64 (i : Nat), .int .i64 (j : Nat)] 96 w4 := ((hPb'.alloc _).alloc _).keep (hT.block pb (by omega) hnp)
      have hI4 : IntBlk w4 g l2 := ((hI.alloc _).alloc _).step (hT.block g (by omega) (fun e => by have := (hvlt _ e).1; omega))
      have hB4' : Below w1.heap.size w1 w4 := hT.below2 ho2 ((hB.alloc (by omega) _).alloc (by simp; omega) _) (by omega) hw1B
      have hsz4 : wa.heap.size + 2 ≤ w4.heap.size := by have := hT.size; omega
      clear hown ho ho2 ha hrows ho4 hI hPb' hB hT hvlt c0 c1 hnp
      have cp0 : CellIs pb 0 (.int .i64 (i : Nat)) w4 := hPb4.cell 0
      have cp1 : CellIs pb 1 (.int .i64 (j : Nat)) w4 := hPb4.cell 1
      have cx : CellIs g i (.int .i64 x) w4 := by rw [HX.out]; exact hI4.cell i hil
      have cy : CellIs g j (.int .i64 y) w4 := by rw [HY.out]; exact hI4.cell j hjl
      have hS10 : (Both (Both (CellIs pb 0 (.int .i64 (i : Nat))) (CellIs pb 1 (.int .i64 (j : Nat)))) (Both (CellIs g i (.int .i64 x)) (CellIs g j (.int .i64 y)))) w4.drew := ⟨⟨cp0, cp1⟩, ⟨cx, cy⟩⟩
      refine wp_region_mix (.one 0 (.one 1 (.one 2 (.one 3 (.one 4 (.one 5 (.one 6 (.one 7 (.one 8 (.one 9 (.act 10 (.act 11 .fin)))))))))))) 99 (Both (Both (CellIs pb 0 (.int .i64 (i : Nat))) (CellIs pb 1 (.int .i64 (j : Nat)))) (Both (CellIs g i (.int .i64 x)) (CellIs g j (.int .i64 y)))) (Both (Both (CellIs pb 0 (.int .i64 (i : Nat))) (CellIs pb 1 (.int .i64 (j : Nat)))) (Both (CellIs g i (.int .i64 x)) (CellIs g j (.int .i64 y)))) (by kernel_rfl) (by kernel_rfl) rfl (by kernel_rfl) hS10 (fun w5 hq5 _ => ?_)
      have hq10 : (Both (Both (CellIs pb 0 (.int .i64 (i : Nat))) (CellIs pb 1 (.int .i64 (j : Nat)))) (Both (CellIs g i (.int .i64 x)) (CellIs g j (.int .i64 y)))) w5 := ⟨⟨CellIs.qt cp0 hq5, CellIs.qt cp1 hq5⟩, ⟨CellIs.qt cx hq5, CellIs.qt cy hq5⟩⟩
      refine mix_pure rfl (fun K hK => ?_)
      go_simp
      refine ⟨_, fun _ _ => rfl, hK _ ?_⟩
      clear hK K
      refine mix_pure rfl (fun K hK => ?_)
      go_simp
      refine ⟨_, fun _ _ => rfl, hK _ ?_⟩
      clear hK K
      refine mix_load rfl rfl rfl (.int .i64 (i : Nat)) (fun w' h => by have h : (Both (Both (CellIs pb 0 (.int .i64 (i : Nat))) (CellIs pb 1 (.int .i64 (j : Nat)))) (Both (CellIs g i (.int .i64 x)) (CellIs g j (.int .i64 y)))) w' := h; have h : (Both (Both (CellIs pb 0 (.int .i64 (i : Nat))) (CellIs pb 1 (.int .i64 (j : Nat)))) (Both (CellIs g i (.int .i64 x)) (CellIs g j (.int .i64 y)))) w' := h; have g1 := h.1.1.out; clear h; go_simp) rfl ?_
      refine mix_pure rfl (fun K hK => ?_)
      go_simp
      refine ⟨_, fun _ _ => rfl, hK _ ?_⟩
      clear hK K
      refine mix_load rfl rfl rfl (.int .i64 x) (fun w' h => by have h : (Both (Both (CellIs pb 0 (.int .i64 (i : Nat))) (CellIs pb 1 (.int .i64 (j : Nat)))) (Both (CellIs g i (.int .i64 x)) (CellIs g j (.int .i64 y)))) w' := h; have h : (Both (Both (CellIs pb 0 (.int .i64 (i : Nat))) (CellIs pb 1 (.int .i64 (j : Nat)))) (Both (CellIs g i (.int .i64 x)) (CellIs g j (.int .i64 y)))) w' := h; have g1 := h.2.1.out; clear h; go_simp) rfl ?_
      refine mix_pure rfl (fun K hK => ?_)
      go_simp
      refine ⟨_, fun _ _ => rfl, hK _ ?_⟩
      clear hK K
      refine mix_pure rfl (fun K hK => ?_)
      go_simp
      refine ⟨_, fun _ _ => rfl, hK _ ?_⟩
      clear hK K
      refine mix_load rfl rfl rfl (.int .i64 (j : Nat)) (fun w' h => by have h : (Both (Both (CellIs pb 0 (.int .i64 (i : Nat))) (CellIs pb 1 (.int .i64 (j : Nat)))) (Both (CellIs g i (.int .i64 x)) (CellIs g j (.int .i64 y)))) w' := h; have h : (Both (Both (CellIs pb 0 (.int .i64 (i : Nat))) (CellIs pb 1 (.int .i64 (j : Nat)))) (Both (CellIs g i (.int .i64 x)) (CellIs g j (.int .i64 y)))) w' := h; have g1 := h.1.2.out; clear h; go_simp) rfl ?_
      refine mix_pure rfl (fun K hK => ?_)
      go_simp
      refine ⟨_, fun _ _ => rfl, hK _ ?_⟩
      clear hK K
      refine mix_load rfl rfl rfl (.int .i64 y) (fun w' h => by have h : (Both (Both (CellIs pb 0 (.int .i64 (i : Nat))) (CellIs pb 1 (.int .i64 (j : Nat)))) (Both (CellIs g i (.int .i64 x)) (CellIs g j (.int .i64 y)))) w' := h; have h : (Both (Both (CellIs pb 0 (.int .i64 (i : Nat))) (CellIs pb 1 (.int .i64 (j : Nat)))) (Both (CellIs g i (.int .i64 x)) (CellIs g j (.int .i64 y)))) w' := h; have g1 := h.2.2.out; clear h; go_simp) rfl ?_
      refine mix_eff rfl false rfl (fun K hK => ?_)
      go_simp
      refine hK _ _ hq10 ?_
      clear hK K
      refine mix_eff rfl false rfl (fun K hK => ?_)
      go_simp
      refine hK _ _ hq10 ?_
      clear hK K
      refine mix_done ?_
      go_wp2
      have hI5 : IntBlk w5 g l2 := hI4.step (by rw [hq5.heap])
      have hS11 : (Both (CellIs pb 0 (.int .i64 (i : Nat))) (CellIs pb 1 (.int .i64 (j : Nat)))) w5.drew := ⟨hq10.1.1, hq10.1.2⟩
      refine wp_region_mix (.one 0 (.one 1 (.one 2 (.one 3 (.one 4 (.one 5 (.one 6 (.one 7 (.one 8 (.act 9 (.one 10 (.act 11 .fin)))))))))))) 99 (Both (CellIs pb 0 (.int .i64 (i : Nat))) (CellIs pb 1 (.int .i64 (j : Nat)))) (Both (CellIs pb 0 (.int .i64 (i : Nat))) (CellIs pb 1 (.int .i64 (j : Nat)))) (by kernel_rfl) (by kernel_rfl) rfl (by kernel_rfl) hS11 (fun w6 hq6 _ => ?_)
      have hI6 : IntBlk w6 g l2 := hI5.step (by rw [hq6.heap])
      have hI7 := hI6.set i y
      have hs0 : (Both (CellIs pb 0 (.int .i64 (i : Nat))) (CellIs pb 1 (.int .i64 (j : Nat)))) w6 := ⟨CellIs.qt hq10.1.1 hq6, CellIs.qt hq10.1.2 hq6⟩
      have hs6 : (Both (CellIs pb 0 (.int .i64 (i : Nat))) (CellIs pb 1 (.int .i64 (j : Nat)))) (w6.setCell ⟨g, i, none⟩ (.int .i64 y)) := ⟨hs0.1.other (show pb ≠ g by omega) _, hs0.2.other (show pb ≠ g by omega) _⟩
      have hs7 : (Both (CellIs pb 0 (.int .i64 (i : Nat))) (CellIs pb 1 (.int .i64 (j : Nat)))) ((w6.setCell ⟨g, i, none⟩ (.int .i64 y)).setCell ⟨g, j, none⟩ (.int .i64 x)) := ⟨hs6.1.other (show pb ≠ g by omega) _, hs6.2.other (show pb ≠ g by omega) _⟩
      refine mix_pure rfl (fun K hK => ?_)
      go_simp
      refine ⟨_, fun _ _ => rfl, hK _ ?_⟩
      clear hK K
      refine mix_pure rfl (fun K hK => ?_)
      go_simp
      refine ⟨_, fun _ _ => rfl, hK _ ?_⟩
      clear hK K
      refine mix_load rfl rfl rfl (.int .i64 (i : Nat)) (fun w' h => by have h : (Both (CellIs pb 0 (.int .i64 (i : Nat))) (CellIs pb 1 (.int .i64 (j : Nat)))) w' := h; have h : (Both (CellIs pb 0 (.int .i64 (i : Nat))) (CellIs pb 1 (.int .i64 (j : Nat)))) w' := h; have g1 := h.1.out; clear h; go_simp) rfl ?_
      refine mix_pure rfl (fun K hK => ?_)
      go_simp
      refine ⟨_, fun _ _ => rfl, hK _ ?_⟩
      clear hK K
      refine mix_pure rfl (fun K hK => ?_)
      go_simp
      refine ⟨_, fun _ _ => rfl, hK _ ?_⟩
      clear hK K
      refine mix_load rfl rfl rfl (.int .i64 (j : Nat)) (fun w' h => by have h : (Both (CellIs pb 0 (.int .i64 (i : Nat))) (CellIs pb 1 (.int .i64 (j : Nat)))) w' := h; have h : (Both (CellIs pb 0 (.int .i64 (i : Nat))) (CellIs pb 1 (.int .i64 (j : Nat)))) w' := h; have g1 := h.2.out; clear h; go_simp) rfl ?_
      refine mix_pure rfl (fun K hK => ?_)
      go_simp
      refine ⟨_, fun _ _ => rfl, hK _ ?_⟩
      clear hK K
      refine mix_pure rfl (fun K hK => ?_)
      go_simp
      refine ⟨_, fun _ _ => rfl, hK _ ?_⟩
      clear hK K
      refine mix_pure rfl (fun K hK => ?_)
      go_simp
      refine ⟨_, fun _ _ => rfl, hK _ ?_⟩
      clear hK K
      refine mix_eff rfl false rfl (fun K hK => ?_)
      have fo := hI6.free i
      have co := hI6.cell i hil
      go_simp
      refine hK _ _ hs6 ?_
      clear hK K
      refine mix_pure rfl (fun K hK => ?_)
      go_simp
      refine ⟨_, fun _ _ => rfl, hK _ ?_⟩
      clear hK K
      refine mix_eff rfl false rfl (fun K hK => ?_)
      have fo := hI7.free j
      have co := hI7.cell j (by simpa using hjl)
      go_simp
      refine hK _ _ hs7 ?_
      clear hK K
      refine mix_done ?_
      have hI8 := hI7.set j x
      have hsw : (l2.set i y).set j x = swapAt l2 (i, j) := by
        rw [swapAt, HX.out, HY.out]
        simp only [List.getD_eq_getElem?_getD, List.getElem?_eq_getElem hil, List.getElem?_eq_getElem hjl, Option.getD_some]
      rw [hsw] at hI8
      clear hsw
      have hB6' : Below w1.heap.size w1 w6 := (hB4'.trans (hq5.below _)).trans (hq6.below _)
      have hB8 : Below w1.heap.size w1 ((w6.setCell ⟨g, i, none⟩ (.int .i64 y)).setCell ⟨g, j, none⟩ (.int .i64 x)) := (hB6'.setCell hg1 _).setCell hg1 _
      have hz8 : ((w6.setCell ⟨g, i, none⟩ (.int .i64 y)).setCell ⟨g, j, none⟩ (.int .i64 x)).heap.size = w4.heap.size := by
        simp [World.setCell, hq6.heap, hq5.heap]
      have hG8 : GOwn B ((w6.setCell ⟨g, i, none⟩ (.int .i64 y)).setCell ⟨g, j, none⟩ (.int .i64 x)) v' (out ++ [[(i : Int), (j : Int)]]) := hG4.step (by omega) fun k hk _ => by
        rw [Below.heap_setCell _ _ _ k (show k ≠ g by omega), Below.heap_setCell _ _ _ k (show k ≠ g by omega), hq6.heap, hq5.heap]
      have d0 : CellIs pb 0 (.int .i64 (i : Nat)) ((w6.setCell ⟨g, i, none⟩ (.int .i64 y)).setCell ⟨g, j, none⟩ (.int .i64 x)) := hs7.1
      have d1 : CellIs pb 1 (.int .i64 (j : Nat)) ((w6.setCell ⟨g, i, none⟩ (.int .i64 y)).setCell ⟨g, j, none⟩ (.int .i64 x)) := hs7.2
      clear hs7 hs6 hs0 hI7 hI6 hI5 hI4 hG4 hB4' hB6' hPb4 cp0 cp1 cx cy hS10 hS11 hq10
      generalize (w6.setCell ⟨g, i, none⟩ (.int .i64 y)).setCell ⟨g, j, none⟩ (.int .i64 x) = w7 at *
      have g0 := d0.out
      have g1 := d1.out
      clear d0 d1
      have hBw7 : B ≤ w7.heap.size := by omega
      have HZ8 := Lib.hid hz8
      clear hz8
      have hB9 : Below w7.heap.size w7 (w7.alloc (.cells #[.int .i64 (i : Nat), .int .i64 (j : Nat)] 96)) := (Below.refl _ w7).alloc (Nat.le_refl _) _
      have hPn : Blk w7.heap.size #[.int .i64 (i : Nat), .int .i64 (j : Nat)] 96 (w7.alloc (.cells #[.int .i64 (i : Nat), .int .i64 (j : Nat)] 96)) := Blk.new w7 _ _
      have hB10 := hB8.trans (hB9.mono hB8.size)
      have hI10 := hI8.call hB9
      have hvl3 : c.villages.length = (swapAt l2 (i, j)).length := by rw [HSL.out, HVL.out, hl2]
      have hsl4 : (swapAt l2 (i, j)).length ≤ 4 := by rw [HSL.out]; omega
      have hsll : (swapAt l2 (i, j)).length = l.length := by rw [HSL.out]; omega
      have hin := hI10.ints (by omega)
      rw [hsll] at hin
      go_wp2_with fail
      refine (wanted_c (hW.call hB10) (h1.call hB10) hin hsl4 hvl3).mono ?_
      rintro e w8 ⟨q, rfl, hq, hB11⟩
      have hPn8 := hPn.call hB11
      have r0 := hPn8.free 0
      have r1 := hPn8.free 1
      have x0 := hPn8.cell 0
      have x1 := hPn8.cell 1
      have hza : (w7.alloc (.cells #[.int .i64 (i : Nat), .int .i64 (j : Nat)] 96)).heap.size = w7.heap.size + 1 := by simp
      have hB12 : Below w7.heap.size w7 ((w8.setCell ⟨w7.heap.size, 0, none⟩ (.int .i64 q.1)).setCell ⟨w7.heap.size, 1, none⟩ (.int .i64 q.2)) := ((hB9.trans (hB11.mono (by omega))).setCell (Nat.le_refl _) _).setCell (Nat.le_refl _) _
      have hPq := two_set hPn8 (.int .i64 q.1) (.int .i64 q.2)
      have hvo : v'.ownBlock ≠ some w7.heap.size := fun e => by
        obtain ⟨vs2, _, ho2, _⟩ := hG8
        have := (ho2.lt _ e).2
        omega
      have hQ := Lib.hid hq
      have hHB := Lib.hid hvl3
      clear hq hvl3
      go_wp2
      go_roundw
      case rel =>
        refine ⟨w7.heap.size, q, swapAt l2 (i, j), out ++ [[(i : Int), (j : Int)]], k, rfl, hQ.out, hsll, HSP.out, ?_, by have h7 := HPS.out; have := HK.out; omega, ?_, hPq, hvo, by omega, hI8.call hB12, hG8.call hB12, by have := hB12.size; omega, hB8.trans (hB12.mono hB8.size)⟩
        · have h6 := HTR.out
          rw [HK.out, swapsN, if_neg HNE.out, ← HPE.out] at h6
          exact h6
        · have h7 := HK.out
          simp
          omega
      case measure =>
        have h7 := HVS.out
        have h8 := HK.out
        show pot c.villages l - sliceLen v' < pot c.villages l - out.length
        omega

end Go.Proofs.YtmlikgjfpmjdcaaGreatDoor

/- The contract of Swaps (lots); conditions: the arguments read as commons and as a list. -/
namespace Go.Proofs.YtmlikgjfpmjdcaaGreatDoor
open Go.RowKit

theorem grid_nil (A : Nat → Prop) (w : World) : Grid A w (.slice none 0 0) [] :=
  ⟨[], rfl, ⟨none, 0, rfl, Nat.le_refl _, ⟨by unfold maxLen; omega, fun _ => rfl⟩, .inl rfl⟩, fun i a => by simp at a⟩
def swapsR (c : Com) (l : List Int) : List (List Int) × List Int := if divE c l = 0 then swapsF c.villages l else ([], [])

set_option maxRecDepth 100000 in
theorem swaps_bad {A A' : Nat → Prop} {w : World} {vm vv vd : Value} {c : Com} {l : List Int} (h : Cm A w vm vv c) (hd : Ints A' w vd l) (he : divE c l ≠ 0) :
    Calls Tryz.prog 19 #[.agg #[vm, vv], vd] w fun e w' => e = .returned (.tuple #[.slice none 0 0, .slice none 0 0, .int .i64 (divE c l)]) ∧ Below w.heap.size w w' := by
  obtain ⟨am, cpm, rfl, _, _⟩ := h.1.shape
  obtain ⟨av, cpv, rfl, _, _⟩ := h.2.shape
  have hB0 : Below w.heap.size w (w.alloc (.cells #[.slice am c.mountains.length cpm, .slice av c.villages.length cpv] 25)) := (Below.refl _ w).alloc (Nat.le_refl _) _
  have h0 := h.call hB0
  have hd0 := hd.call hB0
  have b1 : (divE c l != 0) = true := by simpa using he
  go_enter Tryz.func19, Tryz.ntmps19
  go_wp2_with fail
  refine (begin_bad h0 hd0 he).mono ?_
  rintro e w1 ⟨rfl, hB1⟩
  have hB2 := hB0.trans (hB1.mono hB0.size)
  clear he
  go_wp2
  go_ret3
  exact ⟨rfl, hB2⟩

theorem swapsR_c {A A' : Nat → Prop} {w : World} {vm vv vd : Value} {c : Com} {l : List Int} (h : Cm A w vm vv c) (hd : Ints A' w vd l) :
    Calls Tryz.prog 19 #[.agg #[vm, vv], vd] w fun e w' => ∃ v1 v2, e = .returned (.tuple #[v1, v2, .int .i64 (divE c l)]) ∧ Grid (fun b => w.heap.size ≤ b) w' v1 (swapsR c l).1 ∧ Ints (fun b => w.heap.size ≤ b) w' v2 (swapsR c l).2 ∧ Below w.heap.size w w' := by
  by_cases he : divE c l = 0
  · rw [swapsR, if_pos he, he]
    exact swaps_good h hd he
  · rw [swapsR, if_neg he]
    refine (swaps_bad h hd he).mono ?_
    rintro e w' ⟨rfl, hB⟩
    exact ⟨_, _, rfl, grid_nil _ _, ints_nil _ _, hB⟩

end Go.Proofs.YtmlikgjfpmjdcaaGreatDoor

/- The contracts of Go's library functions that Fair calls: cmp.Compare, slices.Compare, slices.Clone at int; conditions: as said. -/
namespace Go.Proofs.YtmlikgjfpmjdcaaGreatDoor
open Go.RowKit

def cmpI (x y : Int) : Int := if x < y then -1 else if y < x then 1 else 0
def cmpL : List Int → List Int → Int
  | [], [] => 0
  | [], _ :: _ => -1
  | _ :: _, [] => 1
  | a :: s, b :: t => if cmpI a b ≠ 0 then cmpI a b else cmpL s t

theorem isNaN_c (x : Int) (w : World) : Calls Tryz.prog 96 #[.int .i64 x] w fun e w' => e = .returned (.bool false) ∧ w' = w := by
  have hb : (x != x) = false := by simp
  go_enter Tryz.func96, Tryz.ntmps96
  go_wp2
  go_ret
  exact ⟨rfl, rfl⟩

theorem cmpI_c (x y : Int) (w : World) : Calls Tryz.prog 85 #[.int .i64 x, .int .i64 y] w fun e w' => e = .returned (.int .i64 (cmpI x y)) ∧ w' = w := by
  by_cases h : x < y
  · have b1 : decide (x < y) = true := decide_eq_true h
    go_enter Tryz.func85, Tryz.ntmps85
    go_wp2_with (go_at_call 96; refine (isNaN_c _ _).mono ?_; rintro e w' ⟨rfl, rfl⟩)
    go_ret
    exact ⟨ret_int (by rw [cmpI, if_pos h]), rfl⟩
  · have b1 : decide (x < y) = false := decide_eq_false h
    by_cases h2 : y < x
    · have b2 : decide (y < x) = true := decide_eq_true h2
      go_enter Tryz.func85, Tryz.ntmps85
      go_wp2_with (go_at_call 96; refine (isNaN_c _ _).mono ?_; rintro e w' ⟨rfl, rfl⟩)
      go_ret
      exact ⟨ret_int (by rw [cmpI, if_neg (by omega), if_pos (by omega)]), rfl⟩
    · have b2 : decide (y < x) = false := decide_eq_false h2
      go_enter Tryz.func85, Tryz.ntmps85
      go_wp2_with (go_at_call 96; refine (isNaN_c _ _).mono ?_; rintro e w' ⟨rfl, rfl⟩)
      go_ret
      exact ⟨ret_int (by rw [cmpI, if_neg (by omega), if_neg (by omega)]), rfl⟩

theorem cmpL_end {s t : List Int} (k : Nat) (h1 : k = s.length) : cmpL (s.drop k) (t.drop k) = if k < t.length then -1 else 0 := by
  subst h1
  rw [List.drop_length]
  by_cases h : s.length < t.length
  · rw [List.drop_eq_getElem_cons h, if_pos h]; rfl
  · rw [List.drop_eq_nil_of_le (by omega), if_neg h]; rfl
theorem cmpL_longer {s t : List Int} (k : Nat) (h1 : k < s.length) (h2 : k = t.length) : cmpL (s.drop k) (t.drop k) = 1 := by
  have e : t.drop k = [] := List.drop_eq_nil_of_le (by omega)
  rw [List.drop_eq_getElem_cons h1, e]; rfl
theorem cmpL_step {s t : List Int} (k : Nat) (h1 : k < s.length) (h2 : k < t.length) : cmpL (s.drop k) (t.drop k) = if cmpI s[k] t[k] ≠ 0 then cmpI s[k] t[k] else cmpL (s.drop (k + 1)) (t.drop (k + 1)) := by
  rw [List.drop_eq_getElem_cons h1, List.drop_eq_getElem_cons h2]; rfl

set_option maxRecDepth 100000 in
theorem compare_c {A A' : Nat → Prop} {w : World} {v v2 : Value} {s t : List Int} (h : Ints A w v s) (h2 : Ints A' w v2 t) :
    Calls Tryz.prog 75 #[v, v2] w fun e w' => e = .returned (.int .i64 (cmpL s t)) ∧ w' = w := by
  obtain ⟨a1, c1, rfl, _, _⟩ := h.shape
  obtain ⟨a2, c2, rfl, _, _⟩ := h2.shape
  have n1 := h.len
  have n2 := h2.len
  go_enter Tryz.func75, Tryz.ntmps75
  go_wp2
  go_loopw [11] (fun i wx => wx = w ∧ ∃ k : Nat, k ≤ s.length ∧ k ≤ t.length ∧ i = .int .i64 k ∧ cmpL s t = cmpL (s.drop k) (t.drop k)) (fun i _ => s.length - (intOf i).toNat)
  case atStart => exact ⟨rfl, 0, Nat.zero_le _, Nat.zero_le _, rfl, rfl⟩
  case round =>
    obtain ⟨rfl, k, hk, hk2, rfl, he⟩ := hrel
    have HE := Lib.hid he
    clear he
    by_cases hlt : k < s.length
    · obtain ⟨b1, o1, rfl, -, -, -⟩ := h.addr (by omega)
      have g1 := h.cell k hlt
      by_cases hlt2 : k < t.length
      · obtain ⟨b2, o2, rfl, -, -, -⟩ := h2.addr (by omega)
        have g2 := h2.cell k hlt2
        have hst := cmpL_step k hlt hlt2
        obtain ⟨x, hx⟩ : ∃ x, x = s[k] := ⟨_, rfl⟩
        obtain ⟨y, hy⟩ : ∃ y, y = t[k] := ⟨_, rfl⟩
        rw [← hx] at g1 hst
        rw [← hy] at g2 hst
        clear hx hy
        have HST := Lib.hid hst
        clear hst
        have b3 : decide ((k : Int) ≥ (t.length : Int)) = false := decide_eq_false (by omega)
        by_cases hz : cmpI x y = 0
        · have bz : (cmpI x y != 0) = false := by simpa using hz
          have HZ := Lib.hid hz
          clear hz
          go_wp2_with (go_at_call 85; refine (cmpI_c x y _).mono ?_; rintro e w' ⟨rfl, rfl⟩)
          go_roundw
          case rel => exact ⟨trivial, k + 1, by omega, by omega, by go_num, by rw [HE.out, HST.out, if_neg (by rw [HZ.out]; simp)]⟩
          case measure => simp [intOf]; omega
        · have bz : (cmpI x y != 0) = true := by simpa using hz
          have HZ := Lib.hid hz
          clear hz
          go_wp2_with (go_at_call 85; refine (cmpI_c x y _).mono ?_; rintro e w' ⟨rfl, rfl⟩)
          go_ret
          exact ⟨ret_int (by rw [HE.out, HST.out, if_pos HZ.out]), rfl⟩
      · have hke : k = t.length := by omega
        have hlo := cmpL_longer k hlt hke
        have HL := Lib.hid hlo
        clear hlo
        have b3 : decide ((k : Int) ≥ (t.length : Int)) = true := decide_eq_true (by omega)
        clear hke
        go_wp2
        go_ret
        exact ⟨ret_int (by rw [HE.out, HL.out]), rfl⟩
    · have hke : k = s.length := by omega
      have hen := cmpL_end (t := t) k hke
      have HN := Lib.hid hen
      clear hen
      have HKE := Lib.hid hke
      clear hke
      by_cases hlt2 : s.length < t.length
      · have b3 : decide ((s.length : Int) < (t.length : Int)) = true := decide_eq_true (by omega)
        go_wp2
        go_ret
        exact ⟨ret_int (by rw [HE.out, HN.out, if_pos (by have := HKE.out; omega)]), rfl⟩
      · have b3 : decide ((s.length : Int) < (t.length : Int)) = false := decide_eq_false (by omega)
        go_wp2
        go_ret
        exact ⟨ret_int (by rw [HE.out, HN.out, if_neg (by have := HKE.out; omega)]), rfl⟩

set_option maxRecDepth 100000 in
theorem clone_c {A : Nat → Prop} {w : World} {v : Value} {l : List Int} (h : Ints A w v l) (hl : l.length ≤ 1000000) :
    Calls Tryz.prog 53 #[v] w fun e w' => ∃ v', e = .returned v' ∧ Ints (fun k => w.heap.size ≤ k) w' v' l ∧ Below w.heap.size w w' := by
  have n1 := h.len
  have hh := h.call ((Below.refl w.heap.size w).alloc (Nat.le_refl _) (.cells #[] 3))
  have ho := own_lit w 3 1 #[] 0 rfl (by omega)
  have q22 : ∀ (w : World) (a : Option Addr) (n c n' c' : Nat), (binOp .eql 22 (.slice a n c) (.slice none n' c')).run Tryz.prog w = .ok (.bool a.isNone) w := fun w a n c n' c' => Lib.run_eql_slice_nil w _ _ a n c n' c' Tryz.underlying22
  obtain ⟨a1, c1, rfl, hc1, hm1⟩ := h.shape
  cases a1 with
  | none =>
    have hl0 : l = [] := by
      obtain ⟨ao, cap, e, h1, h2, h3⟩ := h
      cases e
      have := h2.2 rfl
      exact List.eq_nil_of_length_eq_zero (by omega)
    subst hl0
    go_enter Tryz.func53, Tryz.ntmps53
    go_wp2
    go_ret
    exact ⟨_, rfl, ints_nil _ _, Below.refl _ _⟩
  | some ad =>
    go_enter Tryz.func53, Tryz.ntmps53
    go_wp2_with (at_builtin; refine wpList_append_arr rfl _ _ 22 rfl 3 (.int .i64 0) 1 8 Tryz.underlying22 Tryz.info3 rfl (by decide) (by decide) (by simp) ho rfl hh rfl (by rw [I64_len, Nat.mul_one]) (ints_one l) (by omega) ?_; intro v' w' hown hT)
    go_ret
    rw [Nat.zero_add, List.nil_append] at hown
    exact ⟨_, rfl, Own.ints hown, hT.below ho ((Below.refl w.heap.size w).alloc (Nat.le_refl _) _) (by simp)⟩

end Go.Proofs.YtmlikgjfpmjdcaaGreatDoor

