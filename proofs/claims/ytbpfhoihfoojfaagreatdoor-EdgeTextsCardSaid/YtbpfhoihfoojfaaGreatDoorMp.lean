/- The map of readers (edge.readers) and what is looked up in it; conditions: none. -/
import Derived.Test.YtbpfhoihfoojfaaGreatDoorRds
import Derived.WideMake
import Derived.Carry
namespace Go.Proofs.YtbpfhoihfoojfaaGreatDoor
open Go.RowKit

theorem Tryz.mapT : ∃ e, Tryz.prog.underlying 122 = some (.map 9 e) ∧ ∀ w, (zeroValue e).run Tryz.prog w = .ok .nilFunc w := ⟨125, Tryz.underlying122, fun w => by kernel_rfl⟩
/-- A map's entries behind another world. -/
structure Put (w : World) (r : Nat) (es : Array MapEntry) (cl : Nat) (w' : World) : Prop where
  h : w'.heap[r]? = some (.map es cl)
  o : ∀ k, k ≠ r → w'.heap[k]? = w.heap[k]?
  s : w'.heap.size = w.heap.size
  a : w'.os = w.os
  b : w'.tape = w.tape
  c : w'.output = w.output
theorem Put.below {B r cl : Nat} {es : Array MapEntry} {w w' : World} (h : Put w r es cl w') (hB : B ≤ r) : Below B w w' := ⟨h.a, h.b, h.c, by rw [h.s]; exact Nat.le_refl _, fun k hk => h.o k (by omega)⟩
theorem Put.blk {r cl k t : Nat} {es : Array MapEntry} {c : Array Value} {w w' : World} (h : Put w r es cl w') (hk : Blk k c t w) (hne : k ≠ r) : Blk k c t w' := hk.keep (h.o k hne)
theorem put_map {w : World} {r cl : Nat} {es : Array MapEntry} (s : ByteArray) (v : Value) (hb : w.heap[r]? = some (.map es cl)) (hf : Instr.findNow .string (.string s) es.toList 0 = some none) :
    ∃ w', (Instr.mapUpdate 122 (.map (some r)) (.string s) v).run Tryz.prog w = .ok () w' ∧ Put w r (es.push { key := .string s, val := v, born := cl }) (cl + 1) w' := by
  obtain ⟨e, hm, -⟩ := Tryz.mapT
  have hk := Tryz.underlying9
  have hc : (Instr.checkKey false 10000 9 (.string s)).run Tryz.prog w = .ok () w := MapKept.run_checkKey (k := .string s) hk (by simp [MapKept.IsKey]) false 9999
  have hlt : r < w.heap.size := by
    rcases Nat.lt_or_ge r w.heap.size with h | h
    · exact h
    · rw [Array.getElem?_eq_none h] at hb; cases hb
  refine ⟨{ w with heap := w.heap.setIfInBounds r (.map (es.push { key := .string s, val := v, born := cl }) (cl + 1)) }, ?_, ?_⟩
  · simp [Instr.mapUpdate, run_underlying hm, MapKept.run_getObj_map hb, hc, MapKept.run_findKey hk hf, MapKept.run_setObj_map _ hb, Result.andThen]
  · exact ⟨by simp [hlt], fun k hk => by simp [Array.getElem?_setIfInBounds_ne (Ne.symm hk)], by simp, rfl, rfl, rfl⟩
theorem look_map {w : World} {r cl : Nat} {es : Array MapEntry} (s : ByteArray) (i : Nat) (v : Value) (hb : w.heap[r]? = some (.map es cl)) (hf : Instr.findNow .string (.string s) es.toList 0 = some (some (i, v))) :
    (Instr.lookup 122 (.map (some r)) (.string s) true).run Tryz.prog w = .ok (.tuple #[v, .bool true]) w := by
  obtain ⟨e, hm, -⟩ := Tryz.mapT
  have hk := Tryz.underlying9
  have hc : ∀ b, (Instr.checkKey b 10000 9 (.string s)).run Tryz.prog w = .ok () w := fun b => MapKept.run_checkKey (k := .string s) hk (by simp [MapKept.IsKey]) b 9999
  simp [Instr.lookup, run_underlying hm, MapKept.run_getObj_map hb, hc, MapKept.run_findKey hk hf, Result.andThen]
theorem look_none {w : World} {r cl : Nat} {es : Array MapEntry} (s : ByteArray) (hb : w.heap[r]? = some (.map es cl)) (hf : Instr.findNow .string (.string s) es.toList 0 = some none) :
    (Instr.lookup 122 (.map (some r)) (.string s) true).run Tryz.prog w = .ok (.tuple #[.nilFunc, .bool false]) w := by
  obtain ⟨e, hm, hz⟩ := Tryz.mapT
  have hk := Tryz.underlying9
  have hc : ∀ b, (Instr.checkKey b 10000 9 (.string s)).run Tryz.prog w = .ok () w := fun b => MapKept.run_checkKey (k := .string s) hk (by simp [MapKept.IsKey]) b 9999
  simp [Instr.lookup, run_underlying hm, MapKept.run_getObj_map hb, hc, MapKept.run_findKey hk hf, hz, Result.andThen]
theorem str_beq (a b : List UInt8) : (str a == str b) = (a == b) := by
  show (a.toArray == b.toArray) = _
  simp

abbrev clo (n k : Nat) : Value := .func (.func 85) #[] #[.pointer (some ⟨n, 0, none⟩), .pointer (some ⟨k, 0, none⟩)]
abbrev ent (s : List UInt8) (v : Value) (b : Nat) : MapEntry := { key := .string (str s), val := v, born := b }
/-- The map of readers. -/
structure RM (w : World) (N r k1 k2 k3 : Nat) : Prop where
  h : w.heap[r]? = some (.map #[ent wSt (clo (k1 + 1) k1) 0, ent wWi (clo (k2 + 1) k2) 1, ent wBe (clo (k3 + 1) k3) 2, ent wMe (.func (.func 86) #[] #[]) 3, ent wAb (.func (.func 87) #[] #[]) 4, ent wFw (.func (.func 88) #[] #[]) 5] 6)
  a1 : Blk k1 #[.int .i64 1] 3 w ∧ Blk (k1 + 1) #[.string (str wSt)] 9 w
  a2 : Blk k2 #[.int .i64 3] 3 w ∧ Blk (k2 + 1) #[.string (str wWi)] 9 w
  a3 : Blk k3 #[.int .i64 4] 3 w ∧ Blk (k3 + 1) #[.string (str wBe)] 9 w
  l : r < w.heap.size
  n : N ≤ r ∧ N ≤ k1 ∧ N ≤ k2 ∧ N ≤ k3
theorem RM.call {w w' : World} {N r k1 k2 k3 : Nat} (h : RM w N r k1 k2 k3) (hB : Below w.heap.size w w') : RM w' N r k1 k2 k3 :=
  ⟨(hB.block r h.l).trans h.h, ⟨h.a1.1.call hB, h.a1.2.call hB⟩, ⟨h.a2.1.call hB, h.a2.2.call hB⟩, ⟨h.a3.1.call hB, h.a3.2.call hB⟩, by have := hB.size; have := h.l; omega, h.n⟩
theorem RM.keep {w w' : World} {N r k1 k2 k3 : Nat} (h : RM w N r k1 k2 k3) (hs : w.heap.size ≤ w'.heap.size) (hk : ∀ q, N ≤ q → q < w.heap.size → w'.heap[q]? = w.heap[q]?) : RM w' N r k1 k2 k3 := by
  obtain ⟨n1, n2, n3, n4⟩ := h.n
  exact ⟨(hk r n1 h.l).trans h.h, ⟨h.a1.1.keep (hk _ n2 h.a1.1.lt), h.a1.2.keep (hk _ (by omega) h.a1.2.lt)⟩, ⟨h.a2.1.keep (hk _ n3 h.a2.1.lt), h.a2.2.keep (hk _ (by omega) h.a2.2.lt)⟩, ⟨h.a3.1.keep (hk _ n4 h.a3.1.lt), h.a3.2.keep (hk _ (by omega) h.a3.2.lt)⟩, Nat.lt_of_lt_of_le h.l hs, h.n⟩

set_option maxRecDepth 100000 in
theorem plain_c (kd : Int) (s : ByteArray) (w : World) :
    Calls Tryz.prog 84 #[.int .i64 kd, .string s] w fun e w' => e = .returned (.func (.func 85) #[] #[.pointer (some ⟨w.heap.size + 1, 0, none⟩), .pointer (some ⟨w.heap.size, 0, none⟩)]) ∧ w' = (w.alloc (.cells #[.int .i64 kd] 3)).alloc (.cells #[.string s] 9) := by
  go_enter Tryz.func84, Tryz.ntmps84
  go_wp2_with fail
  go_ret
  exact ⟨rfl, rfl⟩
theorem plain2_c (kd : Int) (s : ByteArray) (w : World) :
    Calls Tryz.prog 84 #[.int .i64 kd, .string s] w fun e w' => e = .returned (clo (w.heap.size + 1) w.heap.size) ∧ Blk w.heap.size #[.int .i64 kd] 3 w' ∧ Blk (w.heap.size + 1) #[.string s] 9 w' ∧ Below w.heap.size w w' := by
  refine (plain_c kd s w).mono ?_
  rintro e w' ⟨rfl, rfl⟩
  refine ⟨rfl, (Blk.new _ _ _).alloc _, ?_, ((Below.refl _ w).alloc (Nat.le_refl _) _).alloc (by simp) _⟩
  have := Blk.new (w.alloc (.cells #[.int .i64 kd] 3)) #[.string s] 9
  simpa using this

attribute [local go_sem] run_makeMap
set_option maxRecDepth 100000 in
set_option maxHeartbeats 2000000 in
theorem readers_c (w : World) :
    Calls Tryz.prog 60 #[] w fun e w' => (∃ r k1 k2 k3, e = .returned (.map (some r)) ∧ RM w' w.heap.size r k1 k2 k3) ∧ Below w.heap.size w w' := by
  obtain ⟨w1, hw1⟩ : ∃ x, x = w.alloc (.map #[] 0) := ⟨_, rfl⟩
  obtain ⟨r, hr⟩ : ∃ x, x = w.heap.size := ⟨_, rfl⟩
  have m1 : w1.heap[r]? = some (.map #[] 0) := by rw [hw1, hr]; exact heap_alloc_new w _
  have hB1 : Below w.heap.size w w1 := by rw [hw1]; exact (Below.refl _ w).alloc (Nat.le_refl _) _
  have hz1 : r < w1.heap.size := by rw [hw1, hr]; simp
  have hrw : w.heap.size ≤ r := Nat.le_of_eq hr.symm
  have hM : (Instr.makeMap 122 none).run Tryz.prog w = .ok (.map (some r)) w1 := by rw [hw1, hr]; exact run_makeMap 122 w
  clear hw1 hr
  go_enter Tryz.func60, Tryz.ntmps60
  go_wp2_with fail
  refine (plain2_c _ _ _).mono ?_
  rintro e w2 ⟨rfl, hk0, hn0, hB2⟩
  have m2 := (hB2.block r hz1).trans m1
  have hA2 := bnw hB1 hB2
  obtain ⟨k0, hkk0⟩ : ∃ x, x = w1.heap.size := ⟨_, rfl⟩
  rw [← hkk0] at hk0 hn0 ⊢
  have hkr0 : r < k0 := by rw [hkk0]; exact hz1
  clear hkk0
  have hz2 : r < w2.heap.size := by have := hk0.lt; omega
  obtain ⟨w3, hrun0, hP0⟩ := put_map (⟨#[115, 116, 111, 110, 101]⟩ : ByteArray) (clo (k0 + 1) k0) m2 (by kernel_rfl)
  have m3 := hP0.h
  have hz3 : r < w3.heap.size := by rw [hP0.s]; exact hz2
  have hA3 := hA2.trans (hP0.below hrw)
  have hk0 := hP0.blk hk0 (by omega)
  have hn0 := hP0.blk hn0 (by omega)
  go_wp2_with fail
  refine (plain2_c _ _ _).mono ?_
  rintro e w4 ⟨rfl, hk1, hn1, hB4⟩
  have m4 := (hB4.block r hz3).trans m3
  have hA4 := bnw hA3 hB4
  obtain ⟨k1, hkk1⟩ : ∃ x, x = w3.heap.size := ⟨_, rfl⟩
  rw [← hkk1] at hk1 hn1 ⊢
  have hkr1 : r < k1 := by rw [hkk1]; exact hz3
  clear hkk1
  have hz4 : r < w4.heap.size := by have := hk1.lt; omega
  have hk0 := hk0.call hB4
  have hn0 := hn0.call hB4
  obtain ⟨w5, hrun1, hP1⟩ := put_map (⟨#[119, 105, 116, 104, 105, 110]⟩ : ByteArray) (clo (k1 + 1) k1) m4 (by kernel_rfl)
  have m5 := hP1.h
  have hz5 : r < w5.heap.size := by rw [hP1.s]; exact hz4
  have hA5 := hA4.trans (hP1.below hrw)
  have hk0 := hP1.blk hk0 (by omega)
  have hn0 := hP1.blk hn0 (by omega)
  have hk1 := hP1.blk hk1 (by omega)
  have hn1 := hP1.blk hn1 (by omega)
  go_wp2_with fail
  refine (plain2_c _ _ _).mono ?_
  rintro e w6 ⟨rfl, hk2, hn2, hB6⟩
  have m6 := (hB6.block r hz5).trans m5
  have hA6 := bnw hA5 hB6
  obtain ⟨k2, hkk2⟩ : ∃ x, x = w5.heap.size := ⟨_, rfl⟩
  rw [← hkk2] at hk2 hn2 ⊢
  have hkr2 : r < k2 := by rw [hkk2]; exact hz5
  clear hkk2
  have hz6 : r < w6.heap.size := by have := hk2.lt; omega
  have hk0 := hk0.call hB6
  have hn0 := hn0.call hB6
  have hk1 := hk1.call hB6
  have hn1 := hn1.call hB6
  obtain ⟨w7, hrun2, hP2⟩ := put_map (⟨#[98, 101, 121, 111, 110, 100]⟩ : ByteArray) (clo (k2 + 1) k2) m6 (by kernel_rfl)
  have m7 := hP2.h
  have hz7 : r < w7.heap.size := by rw [hP2.s]; exact hz6
  have hA7 := hA6.trans (hP2.below hrw)
  have hk0 := hP2.blk hk0 (by omega)
  have hn0 := hP2.blk hn0 (by omega)
  have hk1 := hP2.blk hk1 (by omega)
  have hn1 := hP2.blk hn1 (by omega)
  have hk2 := hP2.blk hk2 (by omega)
  have hn2 := hP2.blk hn2 (by omega)
  obtain ⟨w8, hrun3, hP3⟩ := put_map (⟨#[109, 101, 97, 115, 117, 114, 101]⟩ : ByteArray) (.func (.func 86) #[] #[]) m7 (by kernel_rfl)
  have m8 := hP3.h
  have hz8 : r < w8.heap.size := by rw [hP3.s]; exact hz7
  have hA8 := hA7.trans (hP3.below hrw)
  have hk0 := hP3.blk hk0 (by omega)
  have hn0 := hP3.blk hn0 (by omega)
  have hk1 := hP3.blk hk1 (by omega)
  have hn1 := hP3.blk hn1 (by omega)
  have hk2 := hP3.blk hk2 (by omega)
  have hn2 := hP3.blk hn2 (by omega)
  obtain ⟨w9, hrun4, hP4⟩ := put_map (⟨#[97, 98, 114, 101, 97, 115, 116]⟩ : ByteArray) (.func (.func 87) #[] #[]) m8 (by kernel_rfl)
  have m9 := hP4.h
  have hz9 : r < w9.heap.size := by rw [hP4.s]; exact hz8
  have hA9 := hA8.trans (hP4.below hrw)
  have hk0 := hP4.blk hk0 (by omega)
  have hn0 := hP4.blk hn0 (by omega)
  have hk1 := hP4.blk hk1 (by omega)
  have hn1 := hP4.blk hn1 (by omega)
  have hk2 := hP4.blk hk2 (by omega)
  have hn2 := hP4.blk hn2 (by omega)
  obtain ⟨w10, hrun5, hP5⟩ := put_map (⟨#[102, 117, 114, 114, 111, 119]⟩ : ByteArray) (.func (.func 88) #[] #[]) m9 (by kernel_rfl)
  have m10 := hP5.h
  have hz10 : r < w10.heap.size := by rw [hP5.s]; exact hz9
  have hA10 := hA9.trans (hP5.below hrw)
  have hk0 := hP5.blk hk0 (by omega)
  have hn0 := hP5.blk hn0 (by omega)
  have hk1 := hP5.blk hk1 (by omega)
  have hn1 := hP5.blk hn1 (by omega)
  have hk2 := hP5.blk hk2 (by omega)
  have hn2 := hP5.blk hn2 (by omega)
  go_wp2_with fail
  go_ret
  exact ⟨⟨r, k0, k1, k2, rfl, m10, ⟨hk0, hn0⟩, ⟨hk1, hn1⟩, ⟨hk2, hn2⟩, hz10, hrw, by omega, by omega, by omega⟩, hA10⟩

end Go.Proofs.YtbpfhoihfoojfaaGreatDoor
