/- Texts in memory, the library's variables, and the library's calls on texts as they are used here; conditions: as said at each. -/
import Derived.Test.YtbpfhoihfoojfaaGreatDoorTq
import Derived.Test.YtbpfhoihfoojfaaGreatDoorEdP
import Derived.Test.YtbpfhoihfoojfaaGreatDoorShelf
import Derived.Test.YtbpfhoihfoojfaaGreatDoorAs1
import Derived.Shelf.Strings.SlTrimAscii
import Derived.Laws.Strings
import Derived.Laws.Concat
import Derived.Lib.AtoiErrMem
namespace Go.Proofs.YtbpfhoihfoojfaaGreatDoor
open Go.RowKit Go.Sort

theorem bnw {a b c : World} (h : Below a.heap.size a b) (k : Below b.heap.size b c) : Below a.heap.size a c := h.trans (k.mono h.size)
/-- A string of a list. -/
def str (l : List UInt8) : ByteArray := ⟨l.toArray⟩
theorem str_size (l : List UInt8) : (str l).size = l.length := by simp [str, ByteArray.size]
theorem sadd {P : Program} (x y : List UInt8) (h : x.length + y.length ≤ 9000000000000000000) (w : World) : (Op.stringOp .add (str x) (str y)).run P w = .ok (.string (str (x ++ y))) w := by
  unfold str
  rw [run_string_add_sum w _ _ (by simp [ByteArray.size]; omega), ByteArray.mk_append_mk]
theorem str_inj {a b : List UInt8} (h : str a = str b) : a = b := by
  have := congrArg (fun x => x.data.toList) h
  simpa [str] using this
/-- What the library's variables hold. -/
structure GV (w : World) : Prop where
  m : ∃ m : Int, w.cell? ⟨2, 0, none⟩ = some (.int .i64 m)
  e : w.cell? ⟨0, 0, none⟩ = some (.iface 171 (.agg #[.pointer (some ⟨9, 90, none⟩)]))
  t : Lib.TabIs Tryz.prog w "internal/strconv.uint64pow10" .u64 Lib.pow10Tab
  s : 3 ≤ w.heap.size
theorem Tryz.gTab : Tryz.prog.globalNamed "internal/strconv.uint64pow10" = some 1 := by kernel_rfl
theorem var_of_heap {P : Program} {w w' : World} {name : String} {g : Nat} (hg : P.globalNamed name = some g) (h : w'.heap[g]? = w.heap[g]?) : w'.var? P name = w.var? P name := by
  simp [World.var?, hg, h]
theorem GV.below {B : Nat} {w w' : World} (h : GV w) (hB : Below B w w') (h3 : 3 ≤ B) : GV w' := by
  have hs := h.s
  obtain ⟨m, hm⟩ := h.m
  refine ⟨⟨m, (hB.cell (p := ⟨2, 0, none⟩) (show 2 < B by omega)).trans hm⟩, (hB.cell (p := ⟨0, 0, none⟩) (show 0 < B by omega)).trans h.e, ?_, by have := hB.size; omega⟩
  have ht := h.t
  unfold Lib.TabIs at ht ⊢
  rw [var_of_heap Tryz.gTab (hB.block 1 (by omega))]
  exact ht
theorem GV.call {w w' : World} (h : GV w) (hB : Below w.heap.size w w') : GV w' := h.below hB h.s
theorem GV.qt {w w' : World} (h : GV w) (hq : Qt w w') : GV w' := h.call (hq.below _)
/-- Words in memory. -/
def SW (b off : Nat) (ws : List (List UInt8)) (w : World) : Prop := b < w.heap.size ∧ ∀ j (h : j < ws.length), w.cell? ⟨b, off + j, none⟩ = some (.string (str ws[j]))
theorem SW.call {b off : Nat} {ws : List (List UInt8)} {w w' : World} (h : SW b off ws w) (hB : Below w.heap.size w w') : SW b off ws w' :=
  ⟨by have := hB.size; have := h.1; omega, fun j hj => (hB.cell (p := ⟨b, off + j, none⟩) (show b < w.heap.size from h.1)).trans (h.2 j hj)⟩
theorem SW.below {B b off : Nat} {ws : List (List UInt8)} {w w' : World} (h : SW b off ws w) (hB : Below B w w') (hb : b < B) : SW b off ws w' :=
  ⟨by have := hB.size; have := h.1; omega, fun j hj => (hB.cell (p := ⟨b, off + j, none⟩) (show b < B from hb)).trans (h.2 j hj)⟩
theorem SW.qt {b off : Nat} {ws : List (List UInt8)} {w w' : World} (h : SW b off ws w) (hq : Qt w w') : SW b off ws w' := h.call (hq.below _)
theorem split_c (c : UInt8) (s : List UInt8) (w : World) (hM : GV w) (hs : s.length ≤ 100000) :
    Calls Tryz.prog 59 #[.string (str s), .string (⟨#[c]⟩ : ByteArray)] w fun e w' => e = .returned (.slice (some ⟨w.heap.size, 0, none⟩) (cutL c s).length (cutL c s).length) ∧ SW w.heap.size 0 (cutL c s) w' ∧ Below w.heap.size w w' := by
  obtain ⟨m, hm⟩ := hM.m
  have hd : (str s).data.toList = s := rfl
  have hd2 : (⟨#[c]⟩ : ByteArray).data.toList = [c] := rfl
  have hz := str_size s
  refine (Tryz.strings_Split (str s) ⟨#[c]⟩ m w (by omega) hm (Nat.le_refl _)).mono ?_
  rintro e w' ⟨rfl, rfl⟩
  have hsp : (Lib.splitB ⟨#[c]⟩ 0 (Lib.countB (str s) ⟨#[c]⟩) (str s)).map (·.data.toList) = cutL c s := by
    rw [Lib.splitB_data, hd, hd2]
    exact split_cut c s.length s (Nat.le_refl _)
  have hlen : Lib.countB (str s) ⟨#[c]⟩ + 1 = (cutL c s).length := by
    rw [← hsp, List.length_map]
    exact (Lib.splitB_all ⟨#[c]⟩ (Nat.le_refl _) 0 _ (str s) rfl).symm
  rw [hlen]
  refine ⟨rfl, ⟨by simp, fun j hj => ?_⟩, (Below.refl _ w).alloc (Nat.le_refl _) _⟩
  have hj2 : j < (Lib.splitB ⟨#[c]⟩ 0 (Lib.countB (str s) ⟨#[c]⟩) (str s)).length := by
    have := congrArg List.length hsp
    rw [List.length_map] at this
    omega
  have hx : (Lib.splitB ⟨#[c]⟩ 0 (Lib.countB (str s) ⟨#[c]⟩) (str s))[j] = str (cutL c s)[j] := by
    have h1 : ((Lib.splitB ⟨#[c]⟩ 0 (Lib.countB (str s) ⟨#[c]⟩) (str s)).map (·.data.toList))[j]'(by rw [List.length_map]; exact hj2) = (cutL c s)[j] := by
      congr 1
    rw [List.getElem_map] at h1
    rw [← h1]
    rfl
  rw [Nat.zero_add]
  have hb := Blk.new w ((Lib.splitB ⟨#[c]⟩ 0 (Lib.countB (str s) ⟨#[c]⟩) (str s)).map Value.string).toArray 9
  rw [hb.cell j]
  simp [hj2, hx]
theorem itoa_numD (n : Int) : Lib.itoa n = numD n := by
  unfold Lib.itoa numD
  split
  · rw [show n.natAbs = (-n).toNat by omega]
  · rfl
theorem grow_below (w : World) (os : Array Obj) : Below w.heap.size w (grow w os) := ⟨rfl, rfl, rfl, by simp [grow], fun k hk => by simp [grow, Array.getElem?_append_left hk]⟩
theorem drewN_below (B : Nat) (w : World) (k : Nat) : Below B w (w.drewN k) := Qt.below ⟨k, rfl⟩ B
theorem itoa_c (n : Int) (h : In99 n) (w : World) (hG : GV w) : Calls Tryz.prog 32 #[.int .i64 n] w fun e w' => e = .returned (.string (str (numD n))) ∧ Below w.heap.size w w' := by
  obtain ⟨h1, h2⟩ := h
  refine (Tryz.strconv_Itoa n (by omega) (by omega) w hG.t).mono ?_
  rintro e w' ⟨rfl, k, os, rfl⟩
  refine ⟨by rw [itoa_numD]; rfl, ?_⟩
  have h1 := drewN_below w.heap.size w k
  have h2 := grow_below (w.drewN k) os
  rw [(show (w.drewN k).heap.size = w.heap.size from Qt.size ⟨k, rfl⟩)] at h2
  exact h1.trans h2
theorem itoa_q (n : Int) (h : In99 n ∧ 0 ≤ n) (w : World) : Calls Tryz.prog 32 #[.int .i64 n] w fun e w' => e = .returned (.string (str (numD n))) ∧ w' = w := by
  obtain ⟨⟨h1, h2⟩, h3⟩ := h
  have h4 := Tryz.strconv_Itoa_small n.toNat (by omega) w
  rw [show ((n.toNat : Nat) : Int) = n by omega] at h4
  unfold numD str
  rw [if_neg (by omega)]
  exact h4
/-- The sign cut off. -/
def cutS (s : List UInt8) : List UInt8 := if s.head? = some 45 then s.tail else s
theorem cut_c (s : List UInt8) (w : World) : Calls Tryz.prog 89 #[.string (str s), .string (⟨#[45]⟩ : ByteArray)] w fun e w' => e = .returned (.tuple #[.string (str (cutS s)), .bool (decide (s.head? = some 45))]) ∧ w' = w := by
  have h := Tryz.strings_CutPrefix (str s) ⟨#[45]⟩ w
  have e1 : Lib.hasPrefix s [45] = decide (s.head? = some 45) := by
    cases s with
    | nil => rfl
    | cons a r =>
      unfold Lib.hasPrefix
      simp only [List.isPrefixOf, Bool.and_true, List.head?_cons, Option.some.injEq]
      by_cases ha : a = 45
      · subst ha; rfl
      · rw [decide_eq_false ha]
        exact beq_eq_false_iff_ne.2 fun e => ha e.symm
  have e2 : Lib.trimPrefix s [45] = cutS s := by
    unfold Lib.trimPrefix cutS
    rw [e1]
    by_cases hs : s.head? = some 45
    · rw [if_pos (by simpa using hs), if_pos hs]
      simp
    · rw [if_neg (by simpa using hs), if_neg hs]
  have hd : (str s).data.toList = s := rfl
  have hd2 : (⟨#[45]⟩ : ByteArray).data.toList = [45] := rfl
  rw [hd, hd2, e1, e2] at h
  exact h
def digs : List UInt8 := [48, 49, 50, 51, 52, 53, 54, 55, 56, 57]
theorem trim_c (s : List UInt8) (hs : s.length ≤ 100000) (w : World) : Calls Tryz.prog 90 #[.string (str s), .string (⟨#[48, 49, 50, 51, 52, 53, 54, 55, 56, 57]⟩ : ByteArray)] w fun e w' => e = .returned (.string (str (Lib.trimS s digs))) ∧ Below w.heap.size w w' := by
  have hz := str_size s
  exact Any.strings_Trim_laid Tryz.lays160 (by kernel_rfl) (str s) ⟨#[48, 49, 50, 51, 52, 53, 54, 55, 56, 57]⟩ w (by omega) (by decide) (ascii_of_all (by decide))
theorem digs_mem (b : UInt8) : digs.contains b = decide (48 ≤ b.toNat ∧ b.toNat ≤ 57) := by
  have : ∀ k : Nat, k < 256 → digs.contains (UInt8.ofNat k) = decide (48 ≤ (UInt8.ofNat k).toNat ∧ (UInt8.ofNat k).toNat ≤ 57) := by decide +kernel
  have h := this b.toNat b.toNat_lt
  rwa [UInt8.ofNat_toNat] at h
/-- A number or none, as the program tests it. -/
theorem num_test (s : List UInt8) : (s = [] ∨ 2 < s.length ∨ (1 < s.length ∧ s.head? = some 48) ∨ Lib.trimS s digs ≠ []) ↔ numL s = none := by
  match s with
  | [] => simp [numL]
  | [a] =>
    have ht : Lib.trimS [a] digs = if 48 ≤ a.toNat ∧ a.toNat ≤ 57 then [] else [a] := by
      by_cases ha : 48 ≤ a.toNat ∧ a.toNat ≤ 57
      · have := digs_mem a
        rw [decide_eq_true ha] at this
        rw [if_pos ha]
        simp only [Lib.trimS, Lib.trimLeftS, Lib.trimRightS, List.reverse_cons, List.reverse_nil, List.nil_append, List.dropWhile_cons, this, if_true, List.dropWhile_nil]
      · have := digs_mem a
        rw [decide_eq_false ha] at this
        rw [if_neg ha]
        simp only [Lib.trimS, Lib.trimLeftS, Lib.trimRightS, List.reverse_cons, List.reverse_nil, List.nil_append, List.dropWhile_cons, this, Bool.false_eq_true, if_false, List.dropWhile_nil]
    rw [ht]
    unfold numL
    by_cases ha : 48 ≤ a.toNat ∧ a.toNat ≤ 57
    · simp only [if_pos ha]; simp
    · simp only [if_neg ha]; simp
  | [a, b] =>
    have ht : Lib.trimS [a, b] digs = [] ↔ (48 ≤ a.toNat ∧ a.toNat ≤ 57) ∧ (48 ≤ b.toNat ∧ b.toNat ≤ 57) := by
      have h1 := digs_mem a
      have h2 := digs_mem b
      by_cases ha : 48 ≤ a.toNat ∧ a.toNat ≤ 57
      · rw [decide_eq_true ha] at h1
        by_cases hb : 48 ≤ b.toNat ∧ b.toNat ≤ 57
        · rw [decide_eq_true hb] at h2
          simp [Lib.trimS, Lib.trimLeftS, Lib.trimRightS, h1, h2, ha, hb, -List.contains_eq_mem]
        · rw [decide_eq_false hb] at h2
          simp [Lib.trimS, Lib.trimLeftS, Lib.trimRightS, h1, h2, hb, -List.contains_eq_mem]
      · rw [decide_eq_false ha] at h1
        by_cases hb : 48 ≤ b.toNat ∧ b.toNat ≤ 57
        · rw [decide_eq_true hb] at h2
          simp [Lib.trimS, Lib.trimLeftS, Lib.trimRightS, h1, h2, ha, -List.contains_eq_mem]
        · rw [decide_eq_false hb] at h2
          simp [Lib.trimS, Lib.trimLeftS, Lib.trimRightS, h1, h2, ha, -List.contains_eq_mem]
    unfold numL
    by_cases hc : a ≠ 48 ∧ (48 ≤ a.toNat ∧ a.toNat ≤ 57) ∧ (48 ≤ b.toNat ∧ b.toNat ≤ 57)
    · simp only [ne_eq, ht, hc]
      simp [hc.1]
    · simp only [if_neg hc, ne_eq, ht, iff_true]
      by_cases h0 : a = 48
      · simp [h0]
      · right; right; right
        intro h
        exact hc ⟨h0, h⟩
  | a :: b :: c :: r =>
    constructor
    · intro _; rfl
    · intro _; right; left; simp
theorem atoi_c (s : List UInt8) (n : Int) (h : numL s = some n) (w : World) : Calls Tryz.prog 91 #[.string (str s)] w fun e w' => e = .returned (.tuple #[.int .i64 n, .nilIface]) ∧ Below w.heap.size w w' := by
  have hl : s.length ≤ 18 := by
    match s, h with
    | [_], _ => simp
    | [_, _], _ => simp
  have ha : Lib.atoi s = some n := by
    have h45 : ∀ a : UInt8, 48 ≤ a.toNat ∧ a.toNat ≤ 57 → (a == 45) = false ∧ (a == 43) = false := fun a ha => by
      constructor
      · rw [beq_eq_false_iff_ne]; rintro rfl; exact absurd ha.1 (by decide)
      · rw [beq_eq_false_iff_ne]; rintro rfl; exact absurd ha.1 (by decide)
    match s, h with
    | [a], h =>
      by_cases ha : 48 ≤ a.toNat ∧ a.toNat ≤ 57
      · simp only [numL, if_pos ha] at h
        rw [← h]
        simp [Lib.atoi, h45 a ha, Lib.decNat, Lib.decFrom, Lib.digitVal, ha]
      · simp only [numL, if_neg ha] at h; cases h
    | [a, b], h =>
      by_cases hc : a ≠ 48 ∧ (48 ≤ a.toNat ∧ a.toNat ≤ 57) ∧ (48 ≤ b.toNat ∧ b.toNat ≤ 57)
      · simp only [numL, if_pos hc] at h
        rw [← h]
        simp [Lib.atoi, h45 a hc.2.1, Lib.decNat, Lib.decFrom, Lib.digitVal, hc.2.1, hc.2.2]
      · simp only [numL, if_neg hc] at h; cases h
  have hd : (str s).data.toList = s := rfl
  refine (Tryz.strconv_Atoi (str s) n (by rw [str_size]; exact hl) (by rw [hd]; exact ha) w).mono ?_
  rintro e w' ⟨rfl, t, rfl⟩
  exact ⟨rfl, Lib.bytesWorld_below _ _ _⟩

end Go.Proofs.YtbpfhoihfoojfaaGreatDoor
