/- Taking the lines of a text (lots), with a panic caught; conditions: the library's variables hold what their types let them. -/
import Derived.Test.YtmlikgjfpmjdcaaGreatDoorRd2
import Derived.Recover
import Derived.Defers
namespace Go.Proofs.YtmlikgjfpmjdcaaGreatDoor
open Go.RowKit

/-- The commons so far. -/
structure TS (w0 : World) (bc bl : Nat) (c : Com) (vm vv : Value) (ls : List Value) (w : World) : Prop where
  box : Blk bc #[vm, vv] 25 w
  line : Blk bl #[.int .i64 0] 3 w
  im : Ints (fun b => bl < b ∧ vv.ownBlock ≠ some b) w vm c.mountains
  ov : Own (bl + 1) w 43 3 vv c.villages.length (vcells c.villages ls)
  ll : ls.length = c.villages.length
  li : ∀ i (a : i < ls.length) (b : i < c.villages.length), Ints (fun b => bl < b ∧ vv.ownBlock ≠ some b) w ls[i] c.villages[i].likes
  o : w0.heap.size ≤ bc ∧ bc < bl
  bel : Below w0.heap.size w0 w
section
variable {w0 w w' : World} {bc bl : Nat} {c : Com} {vm vv : Value} {ls : List Value}
theorem TS.call (h : TS w0 bc bl c vm vv ls w) (hB : Below w.heap.size w w') : TS w0 bc bl c vm vv ls w' :=
  ⟨h.box.call hB, h.line.call hB, h.im.call hB, h.ov.call hB, h.ll, fun i a b => (h.li i a b).call hB, h.o, bnw h.bel hB⟩
theorem TS.keepM (h : TS w0 bc bl c vm vv ls w) {vm' : Value} {l : List Int} (hl : Ints (fun b => bl < b ∧ vv.ownBlock ≠ some b) w vm' l) : TS w0 bc bl ⟨l, c.villages⟩ vm' vv ls (w.setCell ⟨bc, 0, none⟩ vm') := by
  have ho := h.o
  have hb : ∀ q, q ≠ bc → (w.setCell ⟨bc, 0, none⟩ vm').heap[q]? = w.heap[q]? := fun q hq => Below.heap_setCell _ _ _ _ hq
  have hs : w.heap.size ≤ (w.setCell ⟨bc, 0, none⟩ vm').heap.size := by simp [World.setCell]
  exact ⟨h.box.set 0 vm', h.line.keep (hb _ (by omega)), hl.step hs fun q hq _ => hb q (by have := hq.1; omega), Own.step h.ov fun q _ hq _ => hb q (by omega), h.ll, fun i a b => (h.li i a b).step hs fun q hq _ => hb q (by have := hq.1; omega), h.o, h.bel.setCell (p := ⟨bc, 0, none⟩) h.o.1 vm'⟩
theorem TS.vill (h : TS w0 bc bl c vm vv ls w) {vv' vl : Value} {x : Vil} (hli : Ints (fun b => bl < b ∧ vv.ownBlock ≠ some b) w vl x.likes)
    (ho : Own (bl + 1) w' 43 3 vv' (c.villages.length + 1) (vcells c.villages ls ++ [.int .i64 x.hearths, .int .i64 x.herd, vl])) (ht : Turned w w' vv vv') :
    TS w0 bc bl ⟨c.mountains, c.villages ++ [x]⟩ vm vv' (ls ++ [vl]) (w'.setCell ⟨bc, 1, none⟩ vv') := by
  have hoo := h.o
  have hz := h.line.lt
  have hm : ∀ i, vv.ownBlock = some i → bl + 1 ≤ i := fun i hi => (World.ownsRow.lt h.ov i hi).1
  have hkeep : ∀ i, i < w.heap.size → vv.ownBlock ≠ some i → i ≠ bc → (w'.setCell ⟨bc, 1, none⟩ vv').heap[i]? = w.heap[i]? := fun i hi hne h1 =>
    (Below.heap_setCell _ _ _ _ h1).trans (ht.block i hi hne)
  have hpl : ∀ i, vv'.ownBlock = some i → vv.ownBlock = some i ∨ i = w.heap.size := fun i hi => by
    rcases ht.place with e | e
    · exact .inl (e ▸ hi)
    · exact .inr (Option.some.inj (hi.symm.trans e))
  have hs := ht.size
  have hgen : ∀ (u : Value) (l : List Int), Ints (fun b => bl < b ∧ vv.ownBlock ≠ some b) w u l → Ints (fun b => bl < b ∧ vv'.ownBlock ≠ some b) (w'.setCell ⟨bc, 1, none⟩ vv') u l := by
    intro u l hu
    refine ((hu.wide (A' := fun b => bl < b ∧ vv.ownBlock ≠ some b ∧ vv'.ownBlock ≠ some b) fun d hd hl => ⟨hd.1, hd.2, fun e => ?_⟩).step
      (by simp [World.setCell]; omega) fun d hd hl => hkeep d hl hd.2.1 (by have := hd.1; omega)).wide fun d hd _ => ⟨hd.1, hd.2.2⟩
    rcases hpl d e with e | e
    · exact hd.2 e
    · omega
  have hlb : Blk bl #[.int .i64 0] 3 (w'.setCell ⟨bc, 1, none⟩ vv') := h.line.keep (hkeep _ hz (fun e => by have := hm _ e; omega) (by omega))
  have hbx : Blk bc #[vm, vv] 25 w' := h.box.keep (ht.block _ (by omega) (fun e => by have := hm _ e; omega))
  refine ⟨hbx.set 1 vv', hlb, hgen _ _ h.im, ?_, by simp [h.ll], ?_, hoo, (ht.below2 (B' := w0.heap.size) h.ov h.bel (by omega) (by omega)).setCell (p := ⟨bc, 1, none⟩) hoo.1 vv'⟩
  · rw [List.length_append]
    show Own _ _ 43 3 vv' (c.villages.length + 1) _
    rw [vcells_append c.villages ls h.ll]
    exact Own.step ho fun i _ h1 _ => Below.heap_setCell _ _ _ _ (show i ≠ bc by omega)
  · intro i a b
    rcases Nat.lt_or_ge i ls.length with hi | hi
    · have hb : i < c.villages.length := by rw [← h.ll]; exact hi
      have := hgen _ _ (h.li i hi hb)
      simpa [List.getElem_append_left, hi, hb] using this
    · have hil : i = ls.length := by simp at a; omega
      subst hil
      have := hgen _ _ hli
      simpa [h.ll] using this
theorem TS.cm (h : TS w0 bc bl c vm vv ls w) : Cm (fun q => w0.heap.size ≤ q) w vm vv c := by
  have ho := h.o
  exact ⟨h.im.wide fun q hq _ => by have := hq.1; omega, ls, h.ll, (Own.arr h.ov).wide fun q hq _ => by have hq : bl + 1 ≤ q := hq
                                                                                                        omega, fun i a b => (h.li i a b).wide fun q hq _ => by have := hq.1; omega⟩
end

theorem ta114 (v : Value) (w : World) : (Instr.typeAssert (.iface 114 v) 20 114 false).run Tryz.prog w = .ok v w := by kernel_rfl
attribute [local go_sem] ta114
set_option maxRecDepth 100000 in
set_option maxHeartbeats 1000000 in
theorem catch_panicking (bc bl : Nat) (n : Int) (x y z : Value) (older : List PanicEntry) (w : World) (hc : Blk bc #[x, y] 25 w) (hl : Blk bl #[z] 3 w) (hne : bc ≠ bl) :
    CallsD Tryz.prog 64 #[.pointer (some ⟨bc, 0, none⟩), .pointer (some ⟨bl, 0, none⟩)] (.panicking ({ v := .iface 114 (.agg #[.int .i64 n]), recovered := false } :: older)) w fun e u' w' =>
      e = .returned (.tuple #[]) ∧ u' = .panicking ({ v := .iface 114 (.agg #[.int .i64 n]), recovered := true } :: older) ∧ Blk bc #[.slice none 0 0, .slice none 0 0] 25 w' ∧ Blk bl #[.int .i64 n] 3 w' ∧ (∀ B, B ≤ bc → B ≤ bl → Below B w w') := by
  refine callsD_of_wpS Tryz.func64 rfl fun c₀ cs hu => ?_
  apply wpS_seq
  apply wpS_region
  simp [wpOpsS, go_sem, recoverD, hu, Tryz.ntmps64, Exit.thenS]
  apply wpS_seq
  apply wpS_region
  simp [wpOpsS, go_sem, Exit.thenS]
  refine wpS_cond (t := true) (by simp [Act.eval, Array.replicate]) ?_
  simp only [if_true]
  refine wpS_of_wp ?_
  show Code.wp Tryz.prog _ _ { tmps := #[.pointer (some ⟨bc, 0, none⟩), .pointer (some ⟨bl, 0, none⟩), .iface 114 (.agg #[.int .i64 n]), .iface 114 (.agg #[.int .i64 n]), .iface 114 (.agg #[.int .i64 n]), .bool true, undef, undef, undef, undef], defers := [] } w
  refine wp_region_mix2 (.pur 0 (.pur 1 (.pur 2 (.pur 3 (.act 4 (.act 5 .fin)))))) 5 (fun _ => True) (fun _ => True) (by kernel_rfl) (by kernel_rfl) rfl (by kernel_rfl) trivial (fun wd hqd _ => ?_)
  have hcd := hc.keep (show wd.heap[bc]? = _ by rw [hqd.heap])
  have hld := hl.keep (show wd.heap[bl]? = _ by rw [hqd.heap])
  have f0 := hcd.free 0
  have f1 := hcd.free 1
  have c0 := hcd.cell 0
  have c1 := hcd.cell 1
  refine mix_pur2 rfl (fun K hK => ?_)
  go_simp
  first | refine ⟨_, fun _ => rfl, hK _ ?_⟩ | refine hK _ ?_
  clear hK K
  refine mix_pur2 rfl (fun K hK => ?_)
  go_simp
  first | refine ⟨_, fun _ => rfl, hK _ ?_⟩ | refine hK _ ?_
  clear hK K
  refine mix_pur2 rfl (fun K hK => ?_)
  go_simp
  first | refine ⟨_, fun _ => rfl, hK _ ?_⟩ | refine hK _ ?_
  clear hK K
  refine mix_pur2 rfl (fun K hK => ?_)
  go_simp
  first | refine ⟨_, fun _ => rfl, hK _ ?_⟩ | refine hK _ ?_
  clear hK K
  refine mix_eff2 rfl false rfl (fun K hK => ?_)
  go_simp
  have hc1 := (hcd.set 0 (.slice none 0 0)).set 1 (.slice none 0 0)
  have hl1 := (hld.other (a := ⟨bc, 0, none⟩) (show bl ≠ bc by omega) (.slice none 0 0)).other (a := ⟨bc, 1, none⟩) (show bl ≠ bc by omega) (.slice none 0 0)
  have hB1 : ∀ B, B ≤ bc → Below B w ((wd.setCell ⟨bc, 0, none⟩ (.slice none 0 0)).setCell ⟨bc, 1, none⟩ (.slice none 0 0)) := fun B hB => ((hqd.below B).setCell (p := ⟨bc, 0, none⟩) hB _).setCell (p := ⟨bc, 1, none⟩) hB _
  generalize (wd.setCell ⟨bc, 0, none⟩ (.slice none 0 0)).setCell ⟨bc, 1, none⟩ (.slice none 0 0) = w4 at hc1 hl1 hB1 ⊢
  refine hK _ _ trivial ?_
  clear hK K f0 f1 c0 c1
  refine mix_eff2 rfl true rfl (fun K hK => ?_)
  have f0 := hl1.free 0
  have c0 := hl1.cell 0
  go_simp
  have hl2 := hl1.set 0 (.int .i64 n)
  have hc2 := hc1.other (a := ⟨bl, 0, none⟩) hne (.int .i64 n)
  have hB2 : ∀ B, B ≤ bc → B ≤ bl → Below B w (w4.setCell ⟨bl, 0, none⟩ (.int .i64 n)) := fun B h1 h2 => (hB1 B h1).setCell (p := ⟨bl, 0, none⟩) h2 _
  generalize w4.setCell ⟨bl, 0, none⟩ (.int .i64 n) = w5 at hl2 hc2 hB2 ⊢
  refine hK _ _ trivial ?_
  clear hK K f0 c0
  refine mix_done2 ?_
  have hc3 : Blk bc #[.slice none 0 0, .slice none 0 0] 25 w5 := hc2
  have hl3 : Blk bl #[.int .i64 n] 3 w5 := hl2
  have HX := Lib.hid (And.intro hc3 (And.intro hl3 hB2))
  simp [bodyPostS, results, Tryz.results64]
  exact HX.out

theorem catch_idle (pc pl : Value) (w : World) :
    CallsD Tryz.prog 64 #[pc, pl] .returning w fun e u' w' => e = .returned (.tuple #[]) ∧ u' = .returning ∧ w' = w := by
  refine callsD_of_wpS Tryz.func64 rfl fun c₀ cs hu => ?_
  apply wpS_seq
  apply wpS_region
  simp [wpOpsS, go_sem, recoverD, hu, Tryz.ntmps64, Exit.thenS]
  apply wpS_seq
  apply wpS_region
  simp [wpOpsS, go_sem, Exit.thenS]
  refine wpS_cond (t := false) (by simp [Act.eval, Array.replicate]) ?_
  simp only [Bool.false_eq_true, if_false]
  refine wpS_of_wp (wp_skip ?_)
  cases c₀
  simp_all [bodyPostS, results, Tryz.results64]

/-- The greatest length that the library's search takes at once: any number. -/
def MX (w : World) : Prop := ∃ m : Int, w.cell? ⟨1, 0, none⟩ = some (.int .i64 m)
theorem MX.call {w w' : World} (h : MX w) (h3 : 3 ≤ w.heap.size) (hB : Below w.heap.size w w') : MX w' := by
  obtain ⟨m, hm⟩ := h
  exact ⟨m, (hB.cell (p := ⟨1, 0, none⟩) (show 1 < w.heap.size by omega)).trans hm⟩
theorem split_c (c : UInt8) (s : List UInt8) (w : World) (hM : MX w) (hs : s.length ≤ 100000) :
    Calls Tryz.prog 36 #[.string (str s), .string (⟨#[c]⟩ : ByteArray)] w fun e w' => e = .returned (.slice (some ⟨w.heap.size, 0, none⟩) (cutL c s).length (cutL c s).length) ∧ SW w.heap.size 0 (cutL c s) w' ∧ Below w.heap.size w w' := by
  obtain ⟨m, hm⟩ := hM
  have hd : (str s).data.toList = s := rfl
  have hd2 : (⟨#[c]⟩ : ByteArray).data.toList = [c] := rfl
  have hz := str_size s
  refine (Tryz.strings_Split (str s) ⟨#[c]⟩ m w (by omega) hm (Nat.le_refl _)).mono ?_
  rintro e w' ⟨rfl, rfl⟩
  have hsp : (Lib.splitB ⟨#[c]⟩ 0 (Lib.countB (str s) ⟨#[c]⟩) (str s)).map (·.data.toList) = cutL c s := by
    rw [Lib.splitB_data, hd, hd2]
    exact split_cut c s.length s (Nat.le_refl _)
  have hlen : Lib.countB (str s) ⟨#[c]⟩ + 1 = (cutL c s).length := by
    rw [← hsp, List.length_map]
    exact (Lib.splitB_all ⟨#[c]⟩ (Nat.le_refl _) 0 _ (str s) rfl).symm
  rw [hlen]
  refine ⟨rfl, ⟨by simp, fun j hj => ?_⟩, (Below.refl _ w).alloc (Nat.le_refl _) _⟩
  have hj2 : j < (Lib.splitB ⟨#[c]⟩ 0 (Lib.countB (str s) ⟨#[c]⟩) (str s)).length := by
    have := congrArg List.length hsp
    rw [List.length_map] at this
    omega
  have hx : (Lib.splitB ⟨#[c]⟩ 0 (Lib.countB (str s) ⟨#[c]⟩) (str s))[j] = str (cutL c s)[j] := by
    have h1 : ((Lib.splitB ⟨#[c]⟩ 0 (Lib.countB (str s) ⟨#[c]⟩) (str s)).map (·.data.toList))[j]'(by rw [List.length_map]; exact hj2) = (cutL c s)[j] := by
      congr 1
    rw [List.getElem_map] at h1
    rw [← h1]
    rfl
  rw [Nat.zero_add]
  have hb := Blk.new w ((Lib.splitB ⟨#[c]⟩ 0 (Lib.countB (str s) ⟨#[c]⟩) (str s)).map Value.string).toArray 9
  rw [hb.cell j]
  simp [hj2, hx]

end Go.Proofs.YtmlikgjfpmjdcaaGreatDoor
