/- Contracts of mestakit on lists and on the hand; conditions: the arguments read as said. -/
import Derived.Test.YtbpfhoihfoojfaaGreatDoorBase
namespace Go.Proofs.YtbpfhoihfoojfaaGreatDoor
open Go.RowKit


set_option maxHeartbeats 400000 in
theorem sameInts_q {A A' : Nat → Prop} {w : World} {v1 v2 : Value} {l1 l2 : List Int} (h1 : Ints A w v1 l1) (h2 : Ints A' w v2 l2) :
    Calls Tryz.prog 26 #[v1, v2] w fun e w' => e = .returned (.bool (l1 == l2)) ∧ Qt w w' := by
  obtain ⟨a1, c1, rfl, hc1, hm1⟩ := h1.shape
  obtain ⟨a2, c2, rfl, hc2, hm2⟩ := h2.shape
  have n1 := h1.len
  have n2 := h2.len
  by_cases hl : l1.length = l2.length
  · go_enter Tryz.func26, Tryz.ntmps26
    have hd : (((l1.length : Int)) != (l2.length : Int)) = false := by simp; omega
    have HL := Lib.hid hl; clear hl
    go_wp2
    go_loopw [5] (fun v wr => ∃ k : Nat, k ≤ l1.length ∧ v = .int .i64 k ∧ (∀ j (a : j < l1.length) (b : j < l2.length), j < k → l1[j] = l2[j]) ∧ Qt w wr) (fun v _ => l1.length - (intOf v).toNat)
    case atStart => exact ⟨0, Nat.zero_le _, rfl, by omega, Qt.refl _⟩
    case round =>
      obtain ⟨k, hk, rfl, hpre, hQ⟩ := hrel
      have HP := Lib.hid hpre; clear hpre
      by_cases hlt : k < l1.length
      · have hlt2 : k < l2.length := by have := HL.out; omega
        obtain ⟨b1, o1, rfl, _, _, _⟩ := h1.addr (by omega)
        obtain ⟨b2, o2, rfl, _, _, _⟩ := h2.addr (by omega)
        have g1 := (h1.qt hQ).cell k hlt
        have g2 := (h2.qt hQ).cell k hlt2
        go_wp2
        go_quiet (fail)
        go_wp2
        · have hne : (l1[k] != l2[k]) = true := by assumption
          go_ret
          refine ⟨ret_bool ?_, hQ.drewN _⟩
          symm
          rw [beq_eq_false_iff_ne]
          rintro rfl
          simp at hne
        · have hne : (l1[k] != l2[k]) = false := by assumption
          go_roundw
          case rel =>
            refine ⟨k + 1, by omega, by go_num, fun j a b hj => ?_, hQ.drewN _⟩
            by_cases e : j = k
            · subst e; simpa using hne
            · exact HP.out j a b (by omega)
          case measure => simp [intOf]; omega
      · go_wp2
        go_ret
        refine ⟨ret_bool ?_, hQ⟩
        symm
        rw [beq_iff_eq]
        exact List.ext_getElem HL.out fun j a b => HP.out j a b (by omega)
  · go_enter Tryz.func26, Tryz.ntmps26
    have hd : (((l1.length : Int)) != (l2.length : Int)) = true := by simp; omega
    go_wp2
    go_ret
    refine ⟨ret_bool ?_, Qt.refl _⟩
    symm
    rw [beq_eq_false_iff_ne]
    rintro rfl
    exact hl rfl



/-- The first place of a number, -1 if it has none. -/
def placeOf (l : List Int) (x : Int) : Int := match l.idxOf? x with | some i => i | none => -1

theorem idxOf?_at {l : List Int} {x : Int} {k : Nat} (hk : k < l.length) (he : l[k] = x) (hp : ∀ j (a : j < l.length), j < k → l[j] ≠ x) : l.idxOf? x = some k := by
  rw [List.idxOf?_eq_some_iff]
  exact ⟨hk, by simpa using he, fun j hj => by simpa using hp j (by omega) hj⟩
theorem idxOf?_none {l : List Int} {x : Int} (hp : ∀ j (a : j < l.length), l[j] ≠ x) : l.idxOf? x = none := by
  rw [List.idxOf?_eq_none_iff]
  intro h
  obtain ⟨j, hj, he⟩ := List.getElem_of_mem h
  exact hp j hj he

theorem placeOf_nonneg (l : List Int) (x : Int) : 0 ≤ placeOf l x ↔ x ∈ l := by
  unfold placeOf
  cases h : l.idxOf? x with
  | none => rw [List.idxOf?_eq_none_iff] at h; simp [h]
  | some i =>
    obtain ⟨hi, he, _⟩ := List.idxOf?_eq_some_iff.1 h
    simp only [Int.natCast_nonneg, true_iff]
    rw [← he]
    exact List.getElem_mem hi

/-- A hand in block hb that has dealt k times, its numbers in blocks before it. -/
def Hnd (w : World) (hb : Nat) (k : Nat) : Prop :=
  ∃ vn l s, w.heap[hb]? = some (.cells #[vn, .int .i64 (k : Int), .int .u64 s] 67 (0, 0)) ∧ Ints (fun i => i < hb) w vn l

theorem only_refl (w : World) (b : Nat) : w.grownBy w (some b) := World.grownBy.refl w _
theorem only_trans {a b c : World} {r : Nat} (h : a.grownBy b (some r)) (k : b.grownBy c (some r)) : a.grownBy c (some r) :=
  ⟨k.os.trans h.os, k.tape.trans h.tape, k.output.trans h.output, Nat.le_trans h.size k.size, fun i hi hne => (k.block i (Nat.lt_of_lt_of_le hi h.size) hne).trans (h.block i hi hne)⟩
theorem only_below {a w : World} {r : Nat} (h : Below a.heap.size a w) : a.grownBy w (some r) := ⟨h.os, h.tape, h.output, h.size, fun i hi _ => h.block i hi⟩

theorem u64_bd (n : Int) : 0 ≤ IntKind.u64.wrap n ∧ IntKind.u64.wrap n < 18446744073709551616 := by
  have e : IntKind.u64.wrap n = n % 18446744073709551616 := by
    unfold IntKind.wrap
    simp [IntKind.bits, IntKind.signed]
  rw [e]
  exact ⟨Int.emod_nonneg _ (by decide), Int.emod_lt_of_pos _ (by decide)⟩
theorem bits_bd (op : BinOp) (x y : Int) : 0 ≤ bits op .u64 x y ∧ bits op .u64 x y < 18446744073709551616 := u64_bd _
theorem bits_shr11 (op : BinOp) (x y : Int) : 0 ≤ bits op .u64 x y / 2048 ∧ bits op .u64 x y / 2048 < 9007199254740992 := by
  have := bits_bd op x y
  omega

/-- Two stores into the hand's block. -/
theorem hnd_set {w : World} {hb k : Nat} {vn x y : Value} {l : List Int} (h : w.heap[hb]? = some (.cells #[vn, x, y] 67 (0, 0))) (hl : Ints (fun i => i < hb) w vn l) (k' s' : Int) (hk : k' = ((k + 1 : Nat) : Int)) :
    Hnd ((w.setCell ⟨hb, 1, none⟩ (.int .i64 k')).setCell ⟨hb, 2, none⟩ (.int .u64 s')) hb (k + 1) ∧
      w.grownBy ((w.setCell ⟨hb, 1, none⟩ (.int .i64 k')).setCell ⟨hb, 2, none⟩ (.int .u64 s')) (some hb) := by
  subst hk
  have hother : ∀ i, i ≠ hb → ((w.setCell ⟨hb, 1, none⟩ (.int .i64 ((k + 1 : Nat) : Int))).setCell ⟨hb, 2, none⟩ (.int .u64 s')).heap[i]? = w.heap[i]? := fun i hi =>
    (Below.heap_setCell _ _ _ _ (show i ≠ hb from hi)).trans (Below.heap_setCell _ _ _ _ (show i ≠ hb from hi))
  refine ⟨⟨vn, l, s', ?_, hl.step (by simp [World.setCell]) fun i hi _ => hother i (by omega)⟩, rfl, rfl, rfl, by simp [World.setCell], fun i _ hne => hother i (fun e => hne (by rw [e]))⟩
  simp only [World.setCell, Array.getElem?_modify, h]
  simp

theorem hnd_set_q {w : World} {hb k : Nat} {vn x y : Value} {l : List Int} (h : w.heap[hb]? = some (.cells #[vn, x, y] 67 (0, 0))) (hl : Ints (fun i => i < hb) w vn l) (n : Nat) (k' s' : Int) (hk : k' = ((k + 1 : Nat) : Int)) :
    Hnd (((w.drewN n).setCell ⟨hb, 1, none⟩ (.int .i64 k')).setCell ⟨hb, 2, none⟩ (.int .u64 s')) hb (k + 1) ∧
      w.grownBy (((w.drewN n).setCell ⟨hb, 1, none⟩ (.int .i64 k')).setCell ⟨hb, 2, none⟩ (.int .u64 s')) (some hb) := by
  obtain ⟨h1, h2⟩ := hnd_set (w := w.drewN n) h (hl.drewN n) k' s' hk
  exact ⟨h1, h2.os, h2.tape, h2.output, h2.size, h2.block⟩

theorem Hnd.drewN {w : World} {hb k : Nat} (h : Hnd w hb k) (n : Nat) : Hnd (w.drewN n) hb k := by
  obtain ⟨vn, l, s, h1, h2⟩ := h
  exact ⟨vn, l, s, h1, h2.drewN n⟩
theorem Hnd.lt {w : World} {hb k : Nat} (h : Hnd w hb k) : hb < w.heap.size := by
  obtain ⟨vn, l, s, h1, h2⟩ := h
  exact (Array.getElem?_eq_some_iff.1 h1).1

set_option maxHeartbeats 1000000 in
theorem pull_c {w : World} {hb k : Nat} (h : Hnd w hb k) (hk : k < 1000000) :
    Calls Tryz.prog 53 #[.pointer (some ⟨hb, 0, none⟩)] w fun e w' => (∃ u : Int, e = .returned (.int .u64 u) ∧ 0 ≤ u ∧ u < 9007199254740992) ∧ Hnd w' hb (k + 1) ∧ w.grownBy w' (some hb) := by
  obtain ⟨vn, l, s, hbk, hl⟩ := h
  have c0 : w.cell? ⟨hb, 0, none⟩ = some vn := by rw [World.cell?, hbk]; rfl
  have c1 : w.cell? ⟨hb, 1, none⟩ = some (.int .i64 (k : Int)) := by rw [World.cell?, hbk]; rfl
  have c2 : w.cell? ⟨hb, 2, none⟩ = some (.int .u64 s) := by rw [World.cell?, hbk]; rfl
  have f1 : w.frozen? ⟨hb, 1, none⟩ = false := by rw [World.frozen?, hbk]; rfl
  have f2 : w.frozen? ⟨hb, 2, none⟩ = false := by rw [World.frozen?, hbk]; rfl
  obtain ⟨a1, cp, rfl, hc1, hm1⟩ := hl.shape
  have n1 := hl.len
  have hk1 := Lib.hid (show ((k : Int) + 1) = ((k + 1 : Nat) : Int) by omega)
  by_cases hlt : k < l.length
  · obtain ⟨b1, o1, rfl, hAb, _, _⟩ := hl.addr (by omega)
    have g1 := hl.cell k hlt
    go_enter Tryz.func53, Tryz.ntmps53
    go_wp2
    go_quiet (fail)
    go_wp2
    go_quiet (fail)
    go_wp2
    go_ret
    exact ⟨⟨_, rfl, bits_shr11 _ _ _⟩, hnd_set_q hbk hl _ _ _ hk1.out⟩
  · go_enter Tryz.func53, Tryz.ntmps53
    go_wp2
    go_quiet (fail)
    go_wp2
    go_ret
    exact ⟨⟨_, rfl, bits_shr11 _ _ _⟩, hnd_set_q hbk hl _ _ _ hk1.out⟩

theorem Hnd.step {w w' : World} {hb k : Nat} (h : Hnd w hb k) (hs : w.heap.size ≤ w'.heap.size) (hb' : ∀ i, i ≤ hb → w'.heap[i]? = w.heap[i]?) : Hnd w' hb k := by
  obtain ⟨vn, l, s, h1, h2⟩ := h
  exact ⟨vn, l, s, (hb' hb (Nat.le_refl _)).trans h1, h2.step hs fun i hi hl => hb' i (by omega)⟩
theorem Hnd.below {w w' : World} {hb k B : Nat} (h : Hnd w hb k) (hB : Below B w w') (h1 : hb < B) : Hnd w' hb k :=
  h.step hB.size fun i hi => hB.block i (by omega)
theorem Hnd.call {w w' : World} {hb k : Nat} (h : Hnd w hb k) (hB : Below w.heap.size w w') : Hnd w' hb k := h.below hB h.lt
theorem Hnd.setCell {w : World} {hb k : Nat} (h : Hnd w hb k) {a : Addr} (ha : hb < a.block) (u : Value) : Hnd (w.setCell a u) hb k :=
  h.step (by simp [World.setCell]) fun i hi => Below.heap_setCell w a u i (by omega)
theorem Hnd.qt {w w' : World} {hb k : Nat} (h : Hnd w hb k) (q : Qt w w') : Hnd w' hb k := by
  obtain ⟨n, rfl⟩ := q
  exact h.drewN n
theorem only_setCell {a w : World} {r : Nat} (h : a.grownBy w (some r)) {p : Addr} (hp : a.heap.size ≤ p.block) (u : Value) : a.grownBy (w.setCell p u) (some r) :=
  ⟨h.os, h.tape, h.output, by simpa [World.setCell] using h.size, fun i hi hne => (Below.heap_setCell w p u i (by omega)).trans (h.block i hi hne)⟩
theorem only_then {a b c : World} {r : Nat} (h : a.grownBy b (some r)) (k : Below b.heap.size b c) : a.grownBy c (some r) := only_trans h (only_below k)
theorem Ints.only {A : Nat → Prop} {w w' : World} {hb : Nat} {v : Value} {l : List Int} (h : Ints A w v l) (ho : w.grownBy w' (some hb)) (hA : ¬ A hb) : Ints A w' v l :=
  h.step ho.size fun i hi hl => ho.block i hl (fun e => hA (by injection e with e; exact e ▸ hi))
theorem Own.only {B : Nat} {w w' : World} {hb : Nat} {e : TypeId} {sz n : Nat} {v : Value} {xs : List Value} (h : Own B w e sz v n xs) (ho : w.grownBy w' (some hb)) (hB : hb < B) : Own B w' e sz v n xs :=
  h.step fun i _ h1 hl => ho.block i hl (fun e => by injection e with e; omega)

theorem upto_c {w : World} {hb k : Nat} (h : Hnd w hb k) (hk : k < 1000000) (most : Int) (hm : most ≤ 1000000) (hm0 : -1000000 ≤ most) :
    Calls Tryz.prog 29 #[.pointer (some ⟨hb, 0, none⟩), .int .i64 most] w fun e w' => (∃ u : Int, e = .returned (.int .i64 u) ∧ 0 ≤ u ∧ u ≤ max most 0) ∧ (∃ k', k' ≤ k + 1 ∧ Hnd w' hb k') ∧ w.grownBy w' (some hb) := by
  by_cases h0 : most ≤ 0
  · go_enter Tryz.func29, Tryz.ntmps29
    go_wp2_with fail
    go_ret
    exact ⟨⟨0, rfl, by omega, by omega⟩, ⟨k, by omega, h⟩, only_refl _ _⟩
  · go_enter Tryz.func29, Tryz.ntmps29
    go_wp2_with (go_at_call 53; refine (pull_c h hk).mono ?_; rintro e w' ⟨⟨u, rfl, hu0, hu1⟩, hh, ho⟩)
    go_ret
    have h1 := Int.emod_nonneg u (show most + 1 ≠ 0 by omega)
    have h2 := Int.emod_lt_of_pos u (show 0 < most + 1 by omega)
    refine ⟨⟨wrap64 (u % (most + 1)), rfl, ?_⟩, ⟨k + 1, by omega, hh⟩, ho⟩
    rw [IntWalk.wrap64_in _ ⟨by omega, by omega⟩]
    omega

theorem among_c {w : World} {hb k : Nat} (h : Hnd w hb k) (hk : k < 1000000) (least most : Int) (hm : most ≤ 500000) (hm0 : -500000 ≤ most) (hl : least ≤ 500000) (hl0 : -500000 ≤ least) :
    Calls Tryz.prog 27 #[.pointer (some ⟨hb, 0, none⟩), .int .i64 least, .int .i64 most] w fun e w' => (∃ u : Int, e = .returned (.int .i64 u) ∧ least ≤ u ∧ u ≤ max most least) ∧ (∃ k', k' ≤ k + 1 ∧ Hnd w' hb k') ∧ w.grownBy w' (some hb) := by
  go_enter Tryz.func27, Tryz.ntmps27
  go_wp2_with (go_at_call 29; refine (upto_c h hk (most - least) (by omega) (by omega)).mono ?_; rintro e w' ⟨⟨u, rfl, hu0, hu1⟩, hh, ho⟩)
  go_ret
  refine ⟨⟨wrap64 (least + u), ?_, ?_⟩, hh, ho⟩
  · first | rfl | rw [IntWalk.wrap64_in _ ⟨by omega, by omega⟩]; rfl
  · rw [IntWalk.wrap64_in _ ⟨by omega, by omega⟩]
    omega

theorem of_c {A' : Nat → Prop} {w : World} {hb k : Nat} (h : Hnd w hb k) (hk : k < 1000000) (x : Int) {v : Value} {l : List Int} (hl : Ints A' w v l) (hA : ¬ A' hb) (hll : l.length ≤ 1000) :
    Calls Tryz.prog 28 #[.pointer (some ⟨hb, 0, none⟩), .int .i64 x, v] w fun e w' => (∃ u : Int, e = .returned (.int .i64 u) ∧ (u = x ∨ u ∈ l)) ∧ (∃ k', k' ≤ k + 1 ∧ Hnd w' hb k') ∧ w.grownBy w' (some hb) := by
  obtain ⟨a1, cp, rfl, hc1, hm1⟩ := hl.shape
  have n1 := hl.len
  go_enter Tryz.func28, Tryz.ntmps28
  go_wp2_with fail
  refine (upto_c h hk l.length (by omega) (by omega)).mono ?_
  rintro e w' ⟨⟨u, rfl, hu0, hu1⟩, hh, ho⟩
  by_cases hp : 0 < u
  · obtain ⟨b1, o1, rfl, _, _, _⟩ := hl.addr (by omega)
    obtain ⟨j, hj⟩ : ∃ j : Nat, u = ((j + 1 : Nat) : Int) := ⟨(u - 1).toNat, by omega⟩
    have g1 := (hl.only ho hA).cell j (by omega)
    have hjl : j < l.length := by omega
    have ej : u - 1 = (j : Int) := by omega
    have ej2 : (u - 1).toNat = j := by omega
    subst hj
    go_wp2
    go_ret
    exact ⟨⟨_, rfl, .inr (List.getElem_mem hjl)⟩, hh, ho⟩
  · go_wp2
    go_ret
    exact ⟨⟨_, rfl, .inl rfl⟩, hh, ho⟩


theorem newHand_c {A : Nat → Prop} {w : World} {v : Value} {l : List Int} (h : Ints A w v l) :
    Calls Tryz.prog 6 #[v] w fun e w' => e = .returned (.pointer (some ⟨w.heap.size, 0, none⟩)) ∧ Hnd w' w.heap.size 0 ∧ Below w.heap.size w w' := by
  obtain ⟨a1, c1, rfl, hc1, hm1⟩ := h.shape
  go_enter Tryz.func6, Tryz.ntmps6
  go_wp2
  go_ret
  refine ⟨rfl, ⟨_, l, 88172645463325252, heap_alloc_new w _, ?_⟩, (Below.refl _ _).alloc (Nat.le_refl _) _⟩
  exact (h.wide fun k hk hl => hl).call ((Below.refl _ _).alloc (Nat.le_refl _) _)

/-- Numbers from 0 to n - 1 in some order. -/
def PermOf (n : Nat) (l : List Int) : Prop := l.Perm (iota n)
theorem PermOf.len {n : Nat} {l : List Int} (h : PermOf n l) : l.length = n := by rw [List.Perm.length_eq h, iota_len]
theorem PermOf.mem {n : Nat} {l : List Int} (h : PermOf n l) (x : Int) : x ∈ l ↔ 0 ≤ x ∧ x < n := by rw [List.Perm.mem_iff h, iota_mem]
theorem PermOf.nodup {n : Nat} {l : List Int} (h : PermOf n l) : l.Nodup := (List.Perm.nodup_iff h).2 (iota_nodup n)

/-- An exchange of two places. -/
theorem swap_perm (l : List Int) (i j : Nat) (hi : i < l.length) (hj : j < l.length) : ((l.set i l[j]).set j l[i]).Perm l := by
  apply List.perm_iff_count.2
  intro a
  by_cases e : i = j
  · subst e; simp
  · rw [List.count_set (by simpa using hj), List.count_set hi]
    rw [List.getElem_set_ne e]
    have hp : 0 < l.count l[j] := List.count_pos_iff.2 (List.getElem_mem hj)
    have hq : 0 < l.count l[i] := List.count_pos_iff.2 (List.getElem_mem hi)
    simp only [beq_iff_eq]
    by_cases e1 : l[i] = a <;> by_cases e2 : l[j] = a <;> simp [e1, e2] <;> simp_all <;> omega

/-- An owned row of ints, its shape and cells. -/
theorem own_shape {B : Nat} {w : World} {v : Value} {n : Nat} {l : List Int} (h : Own B w 3 1 v n (I64 l)) (hn : 0 < n) : ∃ g cap, v = .slice (some ⟨g, 0, none⟩) n cap ∧ B ≤ g ∧ g < w.heap.size := by
  rcases h.2 with ⟨rfl, h0⟩ | ⟨g, cap, cur, rfl, hb, hg, _⟩
  · omega
  · exact ⟨g, cap, rfl, hb, (Array.getElem?_eq_some_iff.1 hg).1⟩
theorem own_len {B : Nat} {w : World} {v : Value} {n : Nat} {l : List Int} (h : Own B w 3 1 v n (I64 l)) : l.length = n := by
  have := h.1
  rw [I64_len] at this
  omega
theorem own_cell {B : Nat} {w : World} {g n cap : Nat} {l : List Int} (h : Own B w 3 1 (.slice (some ⟨g, 0, none⟩) n cap) n (I64 l)) (j : Nat) (hj : j < l.length) : w.cell? ⟨g, j, none⟩ = some (.int .i64 l[j]) := by
  have e := own_len h
  rw [World.ownsRow.cellAt h j (by omega), I64_at l j hj]
theorem own_free {B : Nat} {w : World} {g n cap : Nat} {xs : List Value} {e : TypeId} {sz : Nat} (h : Own B w e sz (.slice (some ⟨g, 0, none⟩) n cap) n xs) (j : Nat) : w.frozen? ⟨g, j, none⟩ = false := World.ownsRow.frozenAt h j
theorem own_set {B : Nat} {w : World} {g n cap : Nat} {l : List Int} (h : Own B w 3 1 (.slice (some ⟨g, 0, none⟩) n cap) n (I64 l)) (j : Nat) (x : Int) : Own B (w.setCell ⟨g, j, none⟩ (.int .i64 x)) 3 1 (.slice (some ⟨g, 0, none⟩) n cap) n (I64 (l.set j x)) := by
  have := (World.ownsRow.stored h j (.int .i64 x)).1
  rw [I64, List.map_set]
  exact this


end Go.Proofs.YtbpfhoihfoojfaaGreatDoor
