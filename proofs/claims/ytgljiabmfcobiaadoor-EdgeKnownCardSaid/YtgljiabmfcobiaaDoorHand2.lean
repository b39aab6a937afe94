/- Contracts of mestakit on lists and on the hand; conditions: the arguments read as said. -/
import Derived.Test.YtgljiabmfcobiaaDoorBase
namespace Go.Proofs.YtgljiabmfcobiaaDoor
open Go.RowKit


set_option maxHeartbeats 400000 in
theorem sameInts_q {A A' : Nat → Prop} {w : World} {v1 v2 : Value} {l1 l2 : List Int} (h1 : Ints A w v1 l1) (h2 : Ints A' w v2 l2) :
    Calls Tryd.prog 15 #[v1, v2] w fun e w' => e = .returned (.bool (l1 == l2)) ∧ Qt w w' := by
  obtain ⟨a1, c1, rfl, hc1, hm1⟩ := h1.shape
  obtain ⟨a2, c2, rfl, hc2, hm2⟩ := h2.shape
  have n1 := h1.len
  have n2 := h2.len
  by_cases hl : l1.length = l2.length
  · go_enter Tryd.func15, Tryd.ntmps15
    have hd : (((l1.length : Int)) != (l2.length : Int)) = false := by simp; omega
    have HL := Lib.hid hl; clear hl
    go_wp2
    go_loopw [5] (fun v wr => ∃ k : Nat, k ≤ l1.length ∧ v = .int .i64 k ∧ (∀ j (a : j < l1.length) (b : j < l2.length), j < k → l1[j] = l2[j]) ∧ Qt w wr) (fun v _ => l1.length - (intOf v).toNat)
    case atStart => exact ⟨0, Nat.zero_le _, rfl, by omega, Qt.refl _⟩
    case round =>
      obtain ⟨k, hk, rfl, hpre, hQ⟩ := hrel
      have HP := Lib.hid hpre; clear hpre
      by_cases hlt : k < l1.length
      · have hlt2 : k < l2.length := by have := HL.out; omega
        obtain ⟨b1, o1, rfl, _, _, _⟩ := h1.addr (by omega)
        obtain ⟨b2, o2, rfl, _, _, _⟩ := h2.addr (by omega)
        have g1 := (h1.qt hQ).cell k hlt
        have g2 := (h2.qt hQ).cell k hlt2
        go_wp2
        go_quiet (fail)
        go_wp2
        · have hne : (l1[k] != l2[k]) = true := by assumption
          go_ret
          refine ⟨ret_bool ?_, hQ.drewN _⟩
          symm
          rw [beq_eq_false_iff_ne]
          rintro rfl
          simp at hne
        · have hne : (l1[k] != l2[k]) = false := by assumption
          go_roundw
          case rel =>
            refine ⟨k + 1, by omega, by go_num, fun j a b hj => ?_, hQ.drewN _⟩
            by_cases e : j = k
            · subst e; simpa using hne
            · exact HP.out j a b (by omega)
          case measure => simp [intOf]; omega
      · go_wp2
        go_ret
        refine ⟨ret_bool ?_, hQ⟩
        symm
        rw [beq_iff_eq]
        exact List.ext_getElem HL.out fun j a b => HP.out j a b (by omega)
  · go_enter Tryd.func15, Tryd.ntmps15
    have hd : (((l1.length : Int)) != (l2.length : Int)) = true := by simp; omega
    go_wp2
    go_ret
    refine ⟨ret_bool ?_, Qt.refl _⟩
    symm
    rw [beq_eq_false_iff_ne]
    rintro rfl
    exact hl rfl



/-- The first place of a number, -1 if it has none. -/
def placeOf (l : List Int) (x : Int) : Int := match l.idxOf? x with | some i => i | none => -1

theorem idxOf?_at {l : List Int} {x : Int} {k : Nat} (hk : k < l.length) (he : l[k] = x) (hp : ∀ j (a : j < l.length), j < k → l[j] ≠ x) : l.idxOf? x = some k := by
  rw [List.idxOf?_eq_some_iff]
  exact ⟨hk, by simpa using he, fun j hj => by simpa using hp j (by omega) hj⟩
theorem idxOf?_none {l : List Int} {x : Int} (hp : ∀ j (a : j < l.length), l[j] ≠ x) : l.idxOf? x = none := by
  rw [List.idxOf?_eq_none_iff]
  intro h
  obtain ⟨j, hj, he⟩ := List.getElem_of_mem h
  exact hp j hj he

theorem placeOf_nonneg (l : List Int) (x : Int) : 0 ≤ placeOf l x ↔ x ∈ l := by
  unfold placeOf
  cases h : l.idxOf? x with
  | none => rw [List.idxOf?_eq_none_iff] at h; simp [h]
  | some i =>
    obtain ⟨hi, he, _⟩ := List.idxOf?_eq_some_iff.1 h
    simp only [Int.natCast_nonneg, true_iff]
    rw [← he]
    exact List.getElem_mem hi

theorem only_refl (w : World) (b : Nat) : w.grownBy w (some b) := World.grownBy.refl w _
theorem only_trans {a b c : World} {r : Nat} (h : a.grownBy b (some r)) (k : b.grownBy c (some r)) : a.grownBy c (some r) :=
  ⟨k.os.trans h.os, k.tape.trans h.tape, k.output.trans h.output, Nat.le_trans h.size k.size, fun i hi hne => (k.block i (Nat.lt_of_lt_of_le hi h.size) hne).trans (h.block i hi hne)⟩
theorem only_below {a w : World} {r : Nat} (h : Below a.heap.size a w) : a.grownBy w (some r) := ⟨h.os, h.tape, h.output, h.size, fun i hi _ => h.block i hi⟩

theorem u64_bd (n : Int) : 0 ≤ IntKind.u64.wrap n ∧ IntKind.u64.wrap n < 18446744073709551616 := by
  have e : IntKind.u64.wrap n = n % 18446744073709551616 := by
    unfold IntKind.wrap
    simp [IntKind.bits, IntKind.signed]
  rw [e]
  exact ⟨Int.emod_nonneg _ (by decide), Int.emod_lt_of_pos _ (by decide)⟩
theorem bits_bd (op : BinOp) (x y : Int) : 0 ≤ bits op .u64 x y ∧ bits op .u64 x y < 18446744073709551616 := u64_bd _
theorem bits_shr11 (op : BinOp) (x y : Int) : 0 ≤ bits op .u64 x y / 2048 ∧ bits op .u64 x y / 2048 < 9007199254740992 := by
  have := bits_bd op x y
  omega

theorem only_setCell {a w : World} {r : Nat} (h : a.grownBy w (some r)) {p : Addr} (hp : a.heap.size ≤ p.block) (u : Value) : a.grownBy (w.setCell p u) (some r) :=
  ⟨h.os, h.tape, h.output, by simpa [World.setCell] using h.size, fun i hi hne => (Below.heap_setCell w p u i (by omega)).trans (h.block i hi hne)⟩
theorem only_then {a b c : World} {r : Nat} (h : a.grownBy b (some r)) (k : Below b.heap.size b c) : a.grownBy c (some r) := only_trans h (only_below k)
theorem Ints.only {A : Nat → Prop} {w w' : World} {hb : Nat} {v : Value} {l : List Int} (h : Ints A w v l) (ho : w.grownBy w' (some hb)) (hA : ¬ A hb) : Ints A w' v l :=
  h.step ho.size fun i hi hl => ho.block i hl (fun e => hA (by injection e with e; exact e ▸ hi))
theorem Own.only {B : Nat} {w w' : World} {hb : Nat} {e : TypeId} {sz n : Nat} {v : Value} {xs : List Value} (h : Own B w e sz v n xs) (ho : w.grownBy w' (some hb)) (hB : hb < B) : Own B w' e sz v n xs :=
  h.step fun i _ h1 hl => ho.block i hl (fun e => by injection e with e; omega)

/-- Numbers from 0 to n - 1 in some order. -/
def PermOf (n : Nat) (l : List Int) : Prop := l.Perm (iota n)
theorem PermOf.len {n : Nat} {l : List Int} (h : PermOf n l) : l.length = n := by rw [List.Perm.length_eq h, iota_len]
theorem PermOf.mem {n : Nat} {l : List Int} (h : PermOf n l) (x : Int) : x ∈ l ↔ 0 ≤ x ∧ x < n := by rw [List.Perm.mem_iff h, iota_mem]
theorem PermOf.nodup {n : Nat} {l : List Int} (h : PermOf n l) : l.Nodup := (List.Perm.nodup_iff h).2 (iota_nodup n)

/-- An exchange of two places. -/
theorem swap_perm (l : List Int) (i j : Nat) (hi : i < l.length) (hj : j < l.length) : ((l.set i l[j]).set j l[i]).Perm l := by
  apply List.perm_iff_count.2
  intro a
  by_cases e : i = j
  · subst e; simp
  · rw [List.count_set (by simpa using hj), List.count_set hi]
    rw [List.getElem_set_ne e]
    have hp : 0 < l.count l[j] := List.count_pos_iff.2 (List.getElem_mem hj)
    have hq : 0 < l.count l[i] := List.count_pos_iff.2 (List.getElem_mem hi)
    simp only [beq_iff_eq]
    by_cases e1 : l[i] = a <;> by_cases e2 : l[j] = a <;> simp [e1, e2] <;> simp_all <;> omega

/-- An owned row of ints, its shape and cells. -/
theorem own_shape {B : Nat} {w : World} {v : Value} {n : Nat} {l : List Int} (h : Own B w 3 1 v n (I64 l)) (hn : 0 < n) : ∃ g cap, v = .slice (some ⟨g, 0, none⟩) n cap ∧ B ≤ g ∧ g < w.heap.size := by
  rcases h.2 with ⟨rfl, h0⟩ | ⟨g, cap, cur, rfl, hb, hg, _⟩
  · omega
  · exact ⟨g, cap, rfl, hb, (Array.getElem?_eq_some_iff.1 hg).1⟩
theorem own_len {B : Nat} {w : World} {v : Value} {n : Nat} {l : List Int} (h : Own B w 3 1 v n (I64 l)) : l.length = n := by
  have := h.1
  rw [I64_len] at this
  omega
theorem own_cell {B : Nat} {w : World} {g n cap : Nat} {l : List Int} (h : Own B w 3 1 (.slice (some ⟨g, 0, none⟩) n cap) n (I64 l)) (j : Nat) (hj : j < l.length) : w.cell? ⟨g, j, none⟩ = some (.int .i64 l[j]) := by
  have e := own_len h
  rw [World.ownsRow.cellAt h j (by omega), I64_at l j hj]
theorem own_free {B : Nat} {w : World} {g n cap : Nat} {xs : List Value} {e : TypeId} {sz : Nat} (h : Own B w e sz (.slice (some ⟨g, 0, none⟩) n cap) n xs) (j : Nat) : w.frozen? ⟨g, j, none⟩ = false := World.ownsRow.frozenAt h j
theorem own_set {B : Nat} {w : World} {g n cap : Nat} {l : List Int} (h : Own B w 3 1 (.slice (some ⟨g, 0, none⟩) n cap) n (I64 l)) (j : Nat) (x : Int) : Own B (w.setCell ⟨g, j, none⟩ (.int .i64 x)) 3 1 (.slice (some ⟨g, 0, none⟩) n cap) n (I64 (l.set j x)) := by
  have := (World.ownsRow.stored h j (.int .i64 x)).1
  rw [I64, List.map_set]
  exact this


end Go.Proofs.YtgljiabmfcobiaaDoor
