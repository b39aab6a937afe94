/- A strings.Builder of the call's own; conditions: what is written fits. -/
import Derived.Test.YtmlikgjfpmjdcaaGreatDoorA1
import Derived.Test.YtmlikgjfpmjdcaaGreatDoorShelf
import Derived.Shelf.Strings.Builder1
import Derived.Laws.Strings
import Derived.Laws.Concat
namespace Go.Proofs.YtmlikgjfpmjdcaaGreatDoor
open Go.RowKit

theorem bnw {a b c : World} (h : Below a.heap.size a b) (k : Below b.heap.size b c) : Below a.heap.size a c := h.trans (k.mono h.size)
theorem bal2 {a w : World} {o : Obj} (h : Below a.heap.size a w) : Below a.heap.size a (w.alloc o) := h.alloc h.size o
/-- A string of a list. -/
def str (l : List UInt8) : ByteArray := ⟨l.toArray⟩
theorem str_size (l : List UInt8) : (str l).size = l.length := by simp [str, ByteArray.size]
theorem str_cells (l : List UInt8) : Lib.strCells (str l) = Lib.byteCells l := rfl
theorem sadd {P : Program} (x y : List UInt8) (h : x.length + y.length ≤ 9000000000000000000) (w : World) : (Op.stringOp .add (str x) (str y)).run P w = .ok (.string (str (x ++ y))) w := by
  unfold str
  rw [run_string_add_sum w _ _ (by simp [ByteArray.size]; omega), ByteArray.mk_append_mk]
theorem bInfo : (Tryz.prog.info? 66).map (·.size) = some 2 := by kernel_rfl
theorem bLies : liesAt Tryz.prog Tryz.prog.depth 66 (2 / Tryz.prog.cellsOf 66) 0 66 1 = true := by kernel_rfl
theorem byteInfo : ∃ i : TypeInfo, Tryz.prog.info? 5 = some i ∧ i.zero = some (.int .u8 0) ∧ i.size = 1 ∧ i.bytes = 1 := by
  have h : (Tryz.prog.info? 5).map (fun i => (i.zero, i.size, i.bytes)) = some (some (.int .u8 0), 1, 1) := by kernel_rfl
  obtain ⟨i, hi, e⟩ := Option.map_eq_some_iff.1 h
  injection e with e1 e2
  injection e2 with e2 e3
  exact ⟨i, hi, e1, e2, e3⟩

theorem own_ne_h {B n b sz : Nat} {e t : TypeId} {w : World} {v : Value} {xs : List Value} {c : Array Value} (h : Own B w e sz v n xs) (hX : w.heap[b]? = some (.cells c t (0, 0))) (hn : e ≠ t) : v.ownBlock ≠ some b := by
  intro hb
  rcases h.2 with ⟨rfl, _⟩ | ⟨g, cap, cur, rfl, _, hg, _⟩
  · cases hb
  · injection hb with hb
    have hb : g = b := hb
    subst hb
    rw [hX] at hg
    injection hg with hg
    injection hg with _ h2 _
    exact hn h2.symm
/-- A builder holds these bytes. -/
def BS (B b : Nat) (l : List UInt8) (w : World) : Prop := Lib.IsBuilder 66 5 B b (Lib.byteCells l) w
theorem BA.call {B b : Nat} {p : Value} {bs : List Value} {w w' : World} (h : Lib.BuilderAt 66 5 B b p bs w) (hB : Below w.heap.size w w') : Lib.BuilderAt 66 5 B b p bs w' := by
  have hlt := h.lt
  obtain ⟨h1, v, h2, h3, h4⟩ := h
  exact ⟨h1, v, (hB.block b hlt).trans h2, Own.call h3 hB, h4⟩
theorem BS.call {B b : Nat} {l : List UInt8} {w w' : World} (h : BS B b l w) (hB : Below w.heap.size w w') : BS B b l w' := h.elim (fun h => .inl (BA.call h hB)) (fun h => .inr (BA.call h hB))
theorem BS.new (w : World) : BS w.heap.size w.heap.size [] (w.alloc (.cells #[.pointer none, .slice none 0 0] 66)) := Lib.fresh_isBuilder 66 5 w

set_option maxHeartbeats 1000000 in
set_option maxRecDepth 100000 in
theorem bcc_used (b : Nat) (w : World) (h0 : w.cell? ⟨b, 0, none⟩ = some (.pointer (some ⟨b, 0, none⟩))) :
    Calls Tryz.prog 59 #[.pointer (some ⟨b, 0, none⟩)] w fun e w' => e = .returned (.tuple #[]) ∧ w' = w := by
  obtain ⟨j, hj, _⟩ := Option.map_eq_some_iff.1 bInfo
  go_enter Tryz.func59, Tryz.ntmps59
  go_wp2
  rw [Lib.run_neq_ptr_same w _ Tryz.underlying63 hj]
  go_wp2
  go_end0
  exact ⟨rfl, rfl⟩

set_option maxHeartbeats 1000000 in
set_option maxRecDepth 100000 in
theorem bcc_fresh (b : Nat) (w : World) (h0 : w.cell? ⟨b, 0, none⟩ = some (.pointer none)) (hsh : w.shape? b = some (66, 2)) (hfz : w.frozen? ⟨b, 0, none⟩ = false) :
    Calls Tryz.prog 59 #[.pointer (some ⟨b, 0, none⟩)] w fun e w' => e = .returned (.tuple #[]) ∧ w' = w.setCell ⟨b, 0, none⟩ (.pointer (some ⟨b, 0, none⟩)) := by
  obtain ⟨j, hj, hjs⟩ := Option.map_eq_some_iff.1 bInfo
  go_enter Tryz.func59, Tryz.ntmps59
  go_wp2
  rw [Lib.run_to_unsafe w ⟨b, 0, none⟩ Tryz.underlying63 Tryz.underlying130 hj (by rw [hjs]; decide) hsh (Nat.zero_lt_succ 1)]
  simp only [Result.andThen]
  rw [Oper.upon_value]
  go_wp2
  rw [run_callFunc_extern Tryz.func78 (by kernel_rfl) (by kernel_rfl) (by kernel_rfl) (e := Extern.AbiNoEscape.same) (by kernel_rfl)]
  rw [Lib.run_noEscape]
  simp only [Result.andThen]
  rw [Oper.upon_value]
  go_wp2
  rw [Lib.run_from_unsafe w ⟨b, 0, none⟩ Tryz.underlying130 Tryz.underlying63 hj hsh bLies]
  simp only [Result.andThen]
  rw [Oper.upon_value]
  go_wp2
  go_end0
  exact ⟨rfl, rfl⟩

theorem bcc_c (B b : Nat) (bs : List Value) (w : World) (h : Lib.IsBuilder 66 5 B b bs w) :
    Calls Tryz.prog 59 #[.pointer (some ⟨b, 0, none⟩)] w fun e w' => e = .returned (.tuple #[]) ∧ Lib.BuilderAt 66 5 B b (.pointer (some ⟨b, 0, none⟩)) bs w' ∧ Below B w w' ∧ w.heap.size ≤ w'.heap.size ∧ ∀ q, q ≠ b → w'.heap[q]? = w.heap[q]? := by
  rcases h with h | h
  · refine (bcc_fresh b w h.cell0 h.shape h.frozen0).mono ?_
    rintro e w' ⟨rfl, rfl⟩
    exact ⟨rfl, h.used _, (Below.refl B w).setCell (p := ⟨b, 0, none⟩) h.1 _, by simp [World.setCell], fun q hq => Below.heap_setCell _ _ _ _ hq⟩
  · refine (bcc_used b w h.cell0).mono ?_
    rintro e w' ⟨rfl, rfl⟩
    exact ⟨rfl, h, Below.refl B _, Nat.le_refl _, fun _ _ => rfl⟩

set_option maxHeartbeats 2000000 in
set_option maxRecDepth 100000 in
theorem bws_c {B b : Nat} {l : List UInt8} {w : World} (h : BS B b l w) (s : List UInt8) (hlen : l.length + s.length ≤ 100000) (hBw : B ≤ w.heap.size) :
    Calls Tryz.prog 29 #[.pointer (some ⟨b, 0, none⟩), .string (str s)] w fun e w' => (∃ n, e = .returned (.tuple #[.int .i64 n, .nilIface])) ∧ BS B b (l ++ s) w' ∧ Below B w w' ∧ ∀ q c t, t ≠ 5 → q ≠ b → w.heap[q]? = some (.cells c t (0, 0)) → w'.heap[q]? = some (.cells c t (0, 0)) := by
  obtain ⟨i0, hi, hz0, hz1, hz2⟩ := byteInfo
  have hbl : (Lib.byteCells l).length = l.length := by simp [Lib.byteCells]
  have hss := str_size s
  have HS := Lib.hid hss
  clear hss
  go_enter Tryz.func29, Tryz.ntmps29
  go_wp2_with (go_at_call 59; refine (bcc_c B b _ _ h).mono ?_)
  rintro e w1 ⟨rfl, h1, hb1, hsz1, hk1⟩
  have HK1 := Lib.hid hk1
  clear hk1
  obtain ⟨hB, v, hbk, hown, hne⟩ := h1
  have c0 : w1.cell? ⟨b, 0, none⟩ = some (.pointer (some ⟨b, 0, none⟩)) := by rw [Lib.cell_of_heap hbk]; rfl
  have c1 : w1.cell? ⟨b, 1, none⟩ = some v := by rw [Lib.cell_of_heap hbk]; rfl
  go_wp2_with (at_builtin; go_loud (refine Lib.wpList_append_own_string _ rfl _ _ 64 9 rfl B 5 i0 Tryz.underlying64 Tryz.underlying9 hi hz0 hz1 hz2 _ _ _ rfl hown (str s) rfl ?c3 ?c4 ?c5 ?_))
  case c3 => unfold maxLen; rw [HS.out]; omega
  case c4 => rw [HS.out]; omega
  case c5 => have := hb1.size; omega
  intro v' w2 hown' hgrow _
  have hlt : b < w1.heap.size := by
    rcases Nat.lt_or_ge b w1.heap.size with h' | h'
    · exact h'
    · simp [Array.getElem?_eq_none h'] at hbk
  have hb2 : w2.heap[b]? = some (.cells #[.pointer (some ⟨b, 0, none⟩), v] 66 (0, 0)) := by
    rw [hgrow.block b hlt (fun e => hne e.symm)]
    exact hbk
  have d0 : w2.cell? ⟨b, 0, none⟩ = some (.pointer (some ⟨b, 0, none⟩)) := by rw [Lib.cell_of_heap hb2]; rfl
  have d1 : w2.cell? ⟨b, 1, none⟩ = some v := by rw [Lib.cell_of_heap hb2]; rfl
  have f1 : w2.frozen? ⟨b, 1, none⟩ = false := Lib.frozen_of_heap hb2 1
  obtain ⟨ao, n', cap, rfl⟩ : ∃ ao n' cap, v' = .slice ao n' cap := by
    rcases hown'.2 with ⟨hv, _⟩ | ⟨g, cap, cur, hv, _⟩
    · exact ⟨_, _, _, hv⟩
    · exact ⟨_, _, _, hv⟩
  go_wp2
  go_ret2
  refine ⟨⟨_, rfl⟩, ?_, ?_, ?_⟩
  · have h9 := Lib.BuilderAt.put (T := 66) (e := 5) hB hb2 (bs' := Lib.byteCells l ++ Lib.strCells (str s)) (by rw [List.length_append, Lib.strCells_length, hbl]; exact hown') (by decide)
    rw [str_cells, ← Lib.byteCells_append] at h9
    exact .inr h9
  · exact (hb1.grown hgrow (by have := hb1.size; omega) (fun k hk => (hown.lt k hk).1)).setCell (p := ⟨b, 1, none⟩) hB _
  · intro q c t ht hq hQ
    have hq1 : w1.heap[q]? = some (.cells c t (0, 0)) := (HK1.out q hq).trans hQ
    have hq2 : w2.heap[q]? = some (.cells c t (0, 0)) := (hgrow.block q (Array.getElem?_eq_some_iff.1 hq1).1 (fun e => own_ne_h hown hq1 (fun e => ht e.symm) e.symm)).trans hq1
    exact (Below.heap_setCell w2 ⟨b, 1, none⟩ _ q hq).trans hq2

theorem bst_c {B b : Nat} {l : List UInt8} {w : World} (h : BS B b l w) (hBw : B ≤ w.heap.size) :
    Calls Tryz.prog 31 #[.pointer (some ⟨b, 0, none⟩)] w fun e w' => e = .returned (.string (str l)) ∧ Below B w w' := Tryz.Builder_String_any B b l w h hBw

end Go.Proofs.YtmlikgjfpmjdcaaGreatDoor
