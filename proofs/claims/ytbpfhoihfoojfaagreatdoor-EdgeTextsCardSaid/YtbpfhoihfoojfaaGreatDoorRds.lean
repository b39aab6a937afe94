/- What reads a line (edge.readers): its closures and the map of them; conditions: the library's variables hold what they are laid with. -/
import Derived.Test.YtbpfhoihfoojfaaGreatDoorNu1
namespace Go.Proofs.YtbpfhoihfoojfaaGreatDoor
open Go.RowKit

theorem Ints.qt' {A : Nat → Prop} {w w' : World} {v : Value} {l : List Int} (h : Ints A w v l) (q : Qt w w') : Ints A w' v l := h.call (q.below _)
abbrev cV (c : Cl) : Array Value := #[.int .i64 c.kind, .int .i64 c.point, .int .i64 c.other, .int .i64 c.off, .int .i64 c.err]
abbrev fV (f : Fu) : Array Value := #[.int .i64 f.point, .int .i64 f.year, .int .i64 f.off]
/-- What the reader of a line hands back. -/
def LnPost (c : Option Cl) (f : Option Fu) (w : World) (e : Ending) (w' : World) : Prop :=
  ((c = none ∧ f = none ∧ e = .returned (.tuple #[.pointer none, .pointer none])) ∨
   (∃ y q, c = some y ∧ f = none ∧ e = .returned (.tuple #[.pointer (some ⟨q, 0, none⟩), .pointer none]) ∧ w.heap.size ≤ q ∧ Blk q (cV y) 54 w') ∨
   (∃ y q, c = none ∧ f = some y ∧ e = .returned (.tuple #[.pointer none, .pointer (some ⟨q, 0, none⟩)]) ∧ w.heap.size ≤ q ∧ Blk q (fV y) 73 w')) ∧ Below w.heap.size w w'

set_option maxRecDepth 100000 in
set_option maxHeartbeats 2000000 in
theorem read85_c (kd : Int) (wk : List UInt8) (hwk : wk.length ≤ 20) (hwn : wk ≠ []) (hF : cutL 124 (wk ++ [124, 97, 116, 124, 124, 105, 115, 124]) = fo2 wk) (ws : List (List UInt8)) (b off cap bk bn : Nat) (w : World) (hG : GV w) (hS : SW b off ws w) (hwl : ∀ s ∈ ws, s.length ≤ 100000) (hwm : ws.length ≤ 100000) (hk : Blk bk #[.int .i64 kd] 3 w) (hn : Blk bn #[.string (str wk)] 9 w) :
    Calls Tryz.prog 85 #[.slice (some ⟨b, off, none⟩) ws.length cap, .pointer (some ⟨bn, 0, none⟩), .pointer (some ⟨bk, 0, none⟩)] w (LnPost (plR kd wk ws) none w) := by
  have x0 := hn.cell 0
  have hz := str_size wk
  obtain ⟨F, hFd⟩ : ∃ F, F = wk ++ [124, 97, 116, 124, 124, 105, 115, 124] := ⟨_, rfl⟩
  have e1 : ∀ w, (Op.stringOp .add (str wk) (⟨#[124, 97, 116, 124, 124, 105, 115, 124]⟩ : ByteArray)).run Tryz.prog w = .ok (.string (str F)) w := fun w => by rw [hFd]; exact sadd wk [124, 97, 116, 124, 124, 105, 115, 124] (by simp; omega) w
  have hFl : F.length ≤ 1000 := by rw [hFd]; simp; omega
  rw [← hFd] at hF
  clear hFd
  have hN := numbers_c false F (fo2 wk) ws hF hFl (by simp [fo2]) b off cap w hG hS hwl hwm
  have HN := Lib.hid hN
  clear hN hF
  go_enter Tryz.func85, Tryz.ntmps85
  go_wp2_with fail
  refine HN.out.mono ?_
  rintro e w3 ⟨v, rfl, hI3, hB3⟩
  cases hf : formL false (fo2 wk) ws with
  | none =>
    have HR := Lib.hid (show plR kd wk ws = none by unfold plR; rw [hf]; rfl)
    rw [hf] at hI3
    have hI3 : Ints (fun q => w.heap.size ≤ q) w3 v [] := hI3
    clear hf
    go_wp2_with fail
    go_ret2
    rw [HR.out]
    exact ⟨.inl ⟨rfl, rfl, rfl⟩, hB3⟩
  | some l =>
    obtain ⟨a, b2, rfl, -⟩ := fo2_some hwn hf
    have HR := Lib.hid (show plR kd wk ws = some ⟨kd, a, 0, b2, 0⟩ by unfold plR; rw [hf]; rfl)
    rw [hf] at hI3
    have hI3 : Ints (fun q => w.heap.size ≤ q) w3 v [a, b2] := hI3
    clear hf
    obtain ⟨ao, cp, rfl, _, _⟩ := hI3.shape
    obtain ⟨g, o, rfl, -, -, -⟩ := hI3.addr (by simp)
    have hk3 := hk.call hB3
    go_wp2_with fail
    refine wp_region_mix2 (.one 0 (.pur 1 (.pur 2 (.pur 4 (.pur 5 (.one 3 (.one 6 (.pur 7 (.act 8 (.pur 9 (.pur 10 .fin))))))))))) 8 (fun w => w.cell? ⟨g, o, none⟩ = some (.int .i64 a) ∧ w.cell? ⟨g, o + 1, none⟩ = some (.int .i64 b2) ∧ Blk bk #[.int .i64 kd] 3 w) (fun _ => True) (by kernel_rfl) (by kernel_rfl) rfl (by kernel_rfl) ⟨(hI3.qt' ((Qt.refl _).drewN 1)).cell 0 (by simp), (hI3.qt' ((Qt.refl _).drewN 1)).cell 1 (by simp), hk3.qt ((Qt.refl _).drewN 1)⟩ (fun wd hqd _ => ?_)
    refine mix_load2 rfl rfl rfl (.int .i64 kd) (fun w' h => by have h : (fun w => w.cell? ⟨g, o, none⟩ = some (.int .i64 a) ∧ w.cell? ⟨g, o + 1, none⟩ = some (.int .i64 b2) ∧ Blk bk #[.int .i64 kd] 3 w) w' := h; have h0 := (h.2.2).cell 0; go_simp) rfl ?_
    refine mix_pur2 rfl (fun K hK => ?_)
    go_simp
    first | refine ⟨_, fun _ => rfl, hK _ ?_⟩ | refine hK _ ?_
    clear hK K
    refine mix_pur2 rfl (fun K hK => ?_)
    go_simp
    first | refine ⟨_, fun _ => rfl, hK _ ?_⟩ | refine hK _ ?_
    clear hK K
    refine mix_pur2 rfl (fun K hK => ?_)
    go_simp
    first | refine ⟨_, fun _ => rfl, hK _ ?_⟩ | refine hK _ ?_
    clear hK K
    refine mix_pur2 rfl (fun K hK => ?_)
    go_simp
    first | refine ⟨_, fun _ => rfl, hK _ ?_⟩ | refine hK _ ?_
    clear hK K
    refine mix_load2 rfl rfl rfl (.int .i64 a) (fun w' h => by have h : (fun w => w.cell? ⟨g, o, none⟩ = some (.int .i64 a) ∧ w.cell? ⟨g, o + 1, none⟩ = some (.int .i64 b2) ∧ Blk bk #[.int .i64 kd] 3 w) w' := h; have h0 := h.1; go_simp) rfl ?_
    refine mix_load2 rfl rfl rfl (.int .i64 b2) (fun w' h => by have h : (fun w => w.cell? ⟨g, o, none⟩ = some (.int .i64 a) ∧ w.cell? ⟨g, o + 1, none⟩ = some (.int .i64 b2) ∧ Blk bk #[.int .i64 kd] 3 w) w' := h; have h0 := h.2.1; go_simp) rfl ?_
    refine mix_pur2 rfl (fun K hK => ?_)
    go_simp
    first | refine ⟨_, fun _ => rfl, hK _ ?_⟩ | refine hK _ ?_
    clear hK K
    refine mix_eff2 rfl true rfl (fun K hK => ?_)
    go_simp
    refine hK _ _ trivial ?_
    clear hK K
    refine mix_pur2 rfl (fun K hK => ?_)
    go_simp
    first | refine ⟨_, fun _ => rfl, hK _ ?_⟩ | refine hK _ ?_
    clear hK K
    refine mix_pur2 rfl (fun K hK => ?_)
    go_simp
    first | refine ⟨_, fun _ => rfl, hK _ ?_⟩ | refine hK _ ?_
    clear hK K
    refine mix_done2 ?_
    go_wp2_with fail
    go_ret2
    rw [HR.out]
    have hq3 := hqd.below w3.heap.size
    have hz3 : w3.heap.size ≤ wd.heap.size := hq3.size
    have hq4 : Below w.heap.size w (wd.alloc (.cells #[.int .i64 kd, .int .i64 a, .int .i64 0, .int .i64 b2, .int .i64 0] 54)) := (bnw hB3 hq3).alloc (by have := hB3.size; omega) _
    refine ⟨.inr (.inl ⟨_, _, rfl, rfl, rfl, by have := hB3.size; omega, Blk.new _ _ _⟩), hq4⟩

set_option maxRecDepth 100000 in
set_option maxHeartbeats 2000000 in
theorem read86_c (ws : List (List UInt8)) (b off cap : Nat) (w : World) (hG : GV w) (hS : SW b off ws w) (hwl : ∀ s ∈ ws, s.length ≤ 100000) (hwm : ws.length ≤ 100000) :
    Calls Tryz.prog 86 #[.slice (some ⟨b, off, none⟩) ws.length cap] w (LnPost (meR ws) none w) := by
  have hN := numbers_c false [109, 101, 97, 115, 117, 114, 101, 124, 97, 116, 124, 124, 105, 115, 124, 124, 101, 114, 114, 124] fo3 ws (by decide) (by decide) (by decide) b off cap w hG hS hwl hwm
  have HN := Lib.hid hN
  clear hN
  go_enter Tryz.func86, Tryz.ntmps86
  go_wp2_with fail
  refine HN.out.mono ?_
  rintro e w3 ⟨v, rfl, hI3, hB3⟩
  cases hf : formL false fo3 ws with
  | none =>
    have HR := Lib.hid (show meR ws = none by unfold meR; rw [hf]; rfl)
    rw [hf] at hI3
    have hI3 : Ints (fun q => w.heap.size ≤ q) w3 v [] := hI3
    clear hf
    go_wp2_with fail
    go_ret2
    rw [HR.out]
    exact ⟨.inl ⟨rfl, rfl, rfl⟩, hB3⟩
  | some l =>
    obtain ⟨a, b2, c, rfl, -⟩ := fo3_some hf
    have HR := Lib.hid (show meR ws = some ⟨2, a, 0, b2, c⟩ by unfold meR; rw [hf]; rfl)
    rw [hf] at hI3
    have hI3 : Ints (fun q => w.heap.size ≤ q) w3 v [a, b2, c] := hI3
    clear hf
    obtain ⟨ao, cp, rfl, _, _⟩ := hI3.shape
    obtain ⟨g, o, rfl, -, -, -⟩ := hI3.addr (by simp)
    go_wp2_with fail
    refine wp_region_mix2 (.pur 0 (.pur 1 (.pur 3 (.pur 4 (.pur 6 (.pur 7 (.one 2 (.one 5 (.one 8 (.pur 9 (.act 10 (.pur 11 (.pur 12 .fin))))))))))))) 10 (fun w => w.cell? ⟨g, o, none⟩ = some (.int .i64 a) ∧ w.cell? ⟨g, o + 1, none⟩ = some (.int .i64 b2) ∧ w.cell? ⟨g, o + 2, none⟩ = some (.int .i64 c)) (fun _ => True) (by kernel_rfl) (by kernel_rfl) rfl (by kernel_rfl) ⟨(hI3.qt' ((Qt.refl _).drewN 1)).cell 0 (by simp), (hI3.qt' ((Qt.refl _).drewN 1)).cell 1 (by simp), (hI3.qt' ((Qt.refl _).drewN 1)).cell 2 (by simp)⟩ (fun wd hqd _ => ?_)
    refine mix_pur2 rfl (fun K hK => ?_)
    go_simp
    first | refine ⟨_, fun _ => rfl, hK _ ?_⟩ | refine hK _ ?_
    clear hK K
    refine mix_pur2 rfl (fun K hK => ?_)
    go_simp
    first | refine ⟨_, fun _ => rfl, hK _ ?_⟩ | refine hK _ ?_
    clear hK K
    refine mix_pur2 rfl (fun K hK => ?_)
    go_simp
    first | refine ⟨_, fun _ => rfl, hK _ ?_⟩ | refine hK _ ?_
    clear hK K
    refine mix_pur2 rfl (fun K hK => ?_)
    go_simp
    first | refine ⟨_, fun _ => rfl, hK _ ?_⟩ | refine hK _ ?_
    clear hK K
    refine mix_pur2 rfl (fun K hK => ?_)
    go_simp
    first | refine ⟨_, fun _ => rfl, hK _ ?_⟩ | refine hK _ ?_
    clear hK K
    refine mix_pur2 rfl (fun K hK => ?_)
    go_simp
    first | refine ⟨_, fun _ => rfl, hK _ ?_⟩ | refine hK _ ?_
    clear hK K
    refine mix_load2 rfl rfl rfl (.int .i64 a) (fun w' h => by have h : (fun w => w.cell? ⟨g, o, none⟩ = some (.int .i64 a) ∧ w.cell? ⟨g, o + 1, none⟩ = some (.int .i64 b2) ∧ w.cell? ⟨g, o + 2, none⟩ = some (.int .i64 c)) w' := h; have h0 := h.1; go_simp) rfl ?_
    refine mix_load2 rfl rfl rfl (.int .i64 b2) (fun w' h => by have h : (fun w => w.cell? ⟨g, o, none⟩ = some (.int .i64 a) ∧ w.cell? ⟨g, o + 1, none⟩ = some (.int .i64 b2) ∧ w.cell? ⟨g, o + 2, none⟩ = some (.int .i64 c)) w' := h; have h0 := h.2.1; go_simp) rfl ?_
    refine mix_load2 rfl rfl rfl (.int .i64 c) (fun w' h => by have h : (fun w => w.cell? ⟨g, o, none⟩ = some (.int .i64 a) ∧ w.cell? ⟨g, o + 1, none⟩ = some (.int .i64 b2) ∧ w.cell? ⟨g, o + 2, none⟩ = some (.int .i64 c)) w' := h; have h0 := h.2.2; go_simp) rfl ?_
    refine mix_pur2 rfl (fun K hK => ?_)
    go_simp
    first | refine ⟨_, fun _ => rfl, hK _ ?_⟩ | refine hK _ ?_
    clear hK K
    refine mix_eff2 rfl true rfl (fun K hK => ?_)
    go_simp
    refine hK _ _ trivial ?_
    clear hK K
    refine mix_pur2 rfl (fun K hK => ?_)
    go_simp
    first | refine ⟨_, fun _ => rfl, hK _ ?_⟩ | refine hK _ ?_
    clear hK K
    refine mix_pur2 rfl (fun K hK => ?_)
    go_simp
    first | refine ⟨_, fun _ => rfl, hK _ ?_⟩ | refine hK _ ?_
    clear hK K
    refine mix_done2 ?_
    go_wp2_with fail
    go_ret2
    rw [HR.out]
    have hq3 := hqd.below w3.heap.size
    have hz3 : w3.heap.size ≤ wd.heap.size := hq3.size
    have hq4 : Below w.heap.size w (wd.alloc (.cells #[.int .i64 2, .int .i64 a, .int .i64 0, .int .i64 b2, .int .i64 c] 54)) := (bnw hB3 hq3).alloc (by have := hB3.size; omega) _
    refine ⟨.inr (.inl ⟨_, _, rfl, rfl, rfl, by have := hB3.size; omega, Blk.new _ _ _⟩), hq4⟩

set_option maxRecDepth 100000 in
set_option maxHeartbeats 2000000 in
theorem read87_c (ws : List (List UInt8)) (b off cap : Nat) (w : World) (hG : GV w) (hS : SW b off ws w) (hwl : ∀ s ∈ ws, s.length ≤ 100000) (hwm : ws.length ≤ 100000) :
    Calls Tryz.prog 87 #[.slice (some ⟨b, off, none⟩) ws.length cap] w (LnPost (abR ws) none w) := by
  have hN := numbers_c true [97, 98, 114, 101, 97, 115, 116, 124, 97, 116, 124, 124, 111, 102, 124, 124, 105, 115, 124] foA ws (by decide) (by decide) (by decide) b off cap w hG hS hwl hwm
  have HN := Lib.hid hN
  clear hN
  go_enter Tryz.func87, Tryz.ntmps87
  go_wp2_with fail
  refine HN.out.mono ?_
  rintro e w3 ⟨v, rfl, hI3, hB3⟩
  cases hf : formL true foA ws with
  | none =>
    have HR := Lib.hid (show abR ws = none by unfold abR; rw [hf]; rfl)
    rw [hf] at hI3
    have hI3 : Ints (fun q => w.heap.size ≤ q) w3 v [] := hI3
    clear hf
    go_wp2_with fail
    go_ret2
    rw [HR.out]
    exact ⟨.inl ⟨rfl, rfl, rfl⟩, hB3⟩
  | some l =>
    obtain ⟨a, b2, c, rfl, -⟩ := foA_some hf
    have HR := Lib.hid (show abR ws = some ⟨5, a, b2, c, 0⟩ by unfold abR; rw [hf]; rfl)
    rw [hf] at hI3
    have hI3 : Ints (fun q => w.heap.size ≤ q) w3 v [a, b2, c] := hI3
    clear hf
    obtain ⟨ao, cp, rfl, _, _⟩ := hI3.shape
    obtain ⟨g, o, rfl, -, -, -⟩ := hI3.addr (by simp)
    go_wp2_with fail
    refine wp_region_mix2 (.pur 0 (.pur 1 (.pur 3 (.pur 4 (.pur 6 (.pur 7 (.one 2 (.one 5 (.one 8 (.pur 9 (.act 10 (.pur 11 (.pur 12 .fin))))))))))))) 10 (fun w => w.cell? ⟨g, o, none⟩ = some (.int .i64 a) ∧ w.cell? ⟨g, o + 1, none⟩ = some (.int .i64 b2) ∧ w.cell? ⟨g, o + 2, none⟩ = some (.int .i64 c)) (fun _ => True) (by kernel_rfl) (by kernel_rfl) rfl (by kernel_rfl) ⟨(hI3.qt' ((Qt.refl _).drewN 1)).cell 0 (by simp), (hI3.qt' ((Qt.refl _).drewN 1)).cell 1 (by simp), (hI3.qt' ((Qt.refl _).drewN 1)).cell 2 (by simp)⟩ (fun wd hqd _ => ?_)
    refine mix_pur2 rfl (fun K hK => ?_)
    go_simp
    first | refine ⟨_, fun _ => rfl, hK _ ?_⟩ | refine hK _ ?_
    clear hK K
    refine mix_pur2 rfl (fun K hK => ?_)
    go_simp
    first | refine ⟨_, fun _ => rfl, hK _ ?_⟩ | refine hK _ ?_
    clear hK K
    refine mix_pur2 rfl (fun K hK => ?_)
    go_simp
    first | refine ⟨_, fun _ => rfl, hK _ ?_⟩ | refine hK _ ?_
    clear hK K
    refine mix_pur2 rfl (fun K hK => ?_)
    go_simp
    first | refine ⟨_, fun _ => rfl, hK _ ?_⟩ | refine hK _ ?_
    clear hK K
    refine mix_pur2 rfl (fun K hK => ?_)
    go_simp
    first | refine ⟨_, fun _ => rfl, hK _ ?_⟩ | refine hK _ ?_
    clear hK K
    refine mix_pur2 rfl (fun K hK => ?_)
    go_simp
    first | refine ⟨_, fun _ => rfl, hK _ ?_⟩ | refine hK _ ?_
    clear hK K
    refine mix_load2 rfl rfl rfl (.int .i64 a) (fun w' h => by have h : (fun w => w.cell? ⟨g, o, none⟩ = some (.int .i64 a) ∧ w.cell? ⟨g, o + 1, none⟩ = some (.int .i64 b2) ∧ w.cell? ⟨g, o + 2, none⟩ = some (.int .i64 c)) w' := h; have h0 := h.1; go_simp) rfl ?_
    refine mix_load2 rfl rfl rfl (.int .i64 b2) (fun w' h => by have h : (fun w => w.cell? ⟨g, o, none⟩ = some (.int .i64 a) ∧ w.cell? ⟨g, o + 1, none⟩ = some (.int .i64 b2) ∧ w.cell? ⟨g, o + 2, none⟩ = some (.int .i64 c)) w' := h; have h0 := h.2.1; go_simp) rfl ?_
    refine mix_load2 rfl rfl rfl (.int .i64 c) (fun w' h => by have h : (fun w => w.cell? ⟨g, o, none⟩ = some (.int .i64 a) ∧ w.cell? ⟨g, o + 1, none⟩ = some (.int .i64 b2) ∧ w.cell? ⟨g, o + 2, none⟩ = some (.int .i64 c)) w' := h; have h0 := h.2.2; go_simp) rfl ?_
    refine mix_pur2 rfl (fun K hK => ?_)
    go_simp
    first | refine ⟨_, fun _ => rfl, hK _ ?_⟩ | refine hK _ ?_
    clear hK K
    refine mix_eff2 rfl true rfl (fun K hK => ?_)
    go_simp
    refine hK _ _ trivial ?_
    clear hK K
    refine mix_pur2 rfl (fun K hK => ?_)
    go_simp
    first | refine ⟨_, fun _ => rfl, hK _ ?_⟩ | refine hK _ ?_
    clear hK K
    refine mix_pur2 rfl (fun K hK => ?_)
    go_simp
    first | refine ⟨_, fun _ => rfl, hK _ ?_⟩ | refine hK _ ?_
    clear hK K
    refine mix_done2 ?_
    go_wp2_with fail
    go_ret2
    rw [HR.out]
    have hq3 := hqd.below w3.heap.size
    have hz3 : w3.heap.size ≤ wd.heap.size := hq3.size
    have hq4 : Below w.heap.size w (wd.alloc (.cells #[.int .i64 5, .int .i64 a, .int .i64 b2, .int .i64 c, .int .i64 0] 54)) := (bnw hB3 hq3).alloc (by have := hB3.size; omega) _
    refine ⟨.inr (.inl ⟨_, _, rfl, rfl, rfl, by have := hB3.size; omega, Blk.new _ _ _⟩), hq4⟩

set_option maxRecDepth 100000 in
set_option maxHeartbeats 2000000 in
theorem read88_c (ws : List (List UInt8)) (b off cap : Nat) (w : World) (hG : GV w) (hS : SW b off ws w) (hwl : ∀ s ∈ ws, s.length ≤ 100000) (hwm : ws.length ≤ 100000) :
    Calls Tryz.prog 88 #[.slice (some ⟨b, off, none⟩) ws.length cap] w (LnPost none (fwR ws) w) := by
  have hN := numbers_c false [102, 117, 114, 114, 111, 119, 124, 97, 116, 124, 124, 121, 101, 97, 114, 124, 124, 105, 115, 124] foF ws (by decide) (by decide) (by decide) b off cap w hG hS hwl hwm
  have HN := Lib.hid hN
  clear hN
  go_enter Tryz.func88, Tryz.ntmps88
  go_wp2_with fail
  refine HN.out.mono ?_
  rintro e w3 ⟨v, rfl, hI3, hB3⟩
  cases hf : formL false foF ws with
  | none =>
    have HR := Lib.hid (show fwR ws = none by unfold fwR; rw [hf]; rfl)
    rw [hf] at hI3
    have hI3 : Ints (fun q => w.heap.size ≤ q) w3 v [] := hI3
    clear hf
    go_wp2_with fail
    go_ret2
    rw [HR.out]
    exact ⟨.inl ⟨rfl, rfl, rfl⟩, hB3⟩
  | some l =>
    obtain ⟨a, b2, c, rfl, -⟩ := foF_some hf
    have HR := Lib.hid (show fwR ws = some ⟨a, b2, c⟩ by unfold fwR; rw [hf]; rfl)
    rw [hf] at hI3
    have hI3 : Ints (fun q => w.heap.size ≤ q) w3 v [a, b2, c] := hI3
    clear hf
    obtain ⟨ao, cp, rfl, _, _⟩ := hI3.shape
    obtain ⟨g, o, rfl, -, -, -⟩ := hI3.addr (by simp)
    go_wp2_with fail
    refine wp_region_mix2 (.pur 11 (.pur 0 (.pur 1 (.pur 3 (.pur 4 (.pur 6 (.pur 7 (.one 2 (.one 5 (.one 8 (.pur 9 (.act 10 (.pur 12 .fin))))))))))))) 10 (fun w => w.cell? ⟨g, o, none⟩ = some (.int .i64 a) ∧ w.cell? ⟨g, o + 1, none⟩ = some (.int .i64 b2) ∧ w.cell? ⟨g, o + 2, none⟩ = some (.int .i64 c)) (fun _ => True) (by kernel_rfl) (by kernel_rfl) rfl (by kernel_rfl) ⟨(hI3.qt' ((Qt.refl _).drewN 1)).cell 0 (by simp), (hI3.qt' ((Qt.refl _).drewN 1)).cell 1 (by simp), (hI3.qt' ((Qt.refl _).drewN 1)).cell 2 (by simp)⟩ (fun wd hqd _ => ?_)
    refine mix_pur2 rfl (fun K hK => ?_)
    go_simp
    first | refine ⟨_, fun _ => rfl, hK _ ?_⟩ | refine hK _ ?_
    clear hK K
    refine mix_pur2 rfl (fun K hK => ?_)
    go_simp
    first | refine ⟨_, fun _ => rfl, hK _ ?_⟩ | refine hK _ ?_
    clear hK K
    refine mix_pur2 rfl (fun K hK => ?_)
    go_simp
    first | refine ⟨_, fun _ => rfl, hK _ ?_⟩ | refine hK _ ?_
    clear hK K
    refine mix_pur2 rfl (fun K hK => ?_)
    go_simp
    first | refine ⟨_, fun _ => rfl, hK _ ?_⟩ | refine hK _ ?_
    clear hK K
    refine mix_pur2 rfl (fun K hK => ?_)
    go_simp
    first | refine ⟨_, fun _ => rfl, hK _ ?_⟩ | refine hK _ ?_
    clear hK K
    refine mix_pur2 rfl (fun K hK => ?_)
    go_simp
    first | refine ⟨_, fun _ => rfl, hK _ ?_⟩ | refine hK _ ?_
    clear hK K
    refine mix_pur2 rfl (fun K hK => ?_)
    go_simp
    first | refine ⟨_, fun _ => rfl, hK _ ?_⟩ | refine hK _ ?_
    clear hK K
    refine mix_load2 rfl rfl rfl (.int .i64 a) (fun w' h => by have h : (fun w => w.cell? ⟨g, o, none⟩ = some (.int .i64 a) ∧ w.cell? ⟨g, o + 1, none⟩ = some (.int .i64 b2) ∧ w.cell? ⟨g, o + 2, none⟩ = some (.int .i64 c)) w' := h; have h0 := h.1; go_simp) rfl ?_
    refine mix_load2 rfl rfl rfl (.int .i64 b2) (fun w' h => by have h : (fun w => w.cell? ⟨g, o, none⟩ = some (.int .i64 a) ∧ w.cell? ⟨g, o + 1, none⟩ = some (.int .i64 b2) ∧ w.cell? ⟨g, o + 2, none⟩ = some (.int .i64 c)) w' := h; have h0 := h.2.1; go_simp) rfl ?_
    refine mix_load2 rfl rfl rfl (.int .i64 c) (fun w' h => by have h : (fun w => w.cell? ⟨g, o, none⟩ = some (.int .i64 a) ∧ w.cell? ⟨g, o + 1, none⟩ = some (.int .i64 b2) ∧ w.cell? ⟨g, o + 2, none⟩ = some (.int .i64 c)) w' := h; have h0 := h.2.2; go_simp) rfl ?_
    refine mix_pur2 rfl (fun K hK => ?_)
    go_simp
    first | refine ⟨_, fun _ => rfl, hK _ ?_⟩ | refine hK _ ?_
    clear hK K
    refine mix_eff2 rfl true rfl (fun K hK => ?_)
    go_simp
    refine hK _ _ trivial ?_
    clear hK K
    refine mix_pur2 rfl (fun K hK => ?_)
    go_simp
    first | refine ⟨_, fun _ => rfl, hK _ ?_⟩ | refine hK _ ?_
    clear hK K
    refine mix_done2 ?_
    go_wp2_with fail
    go_ret2
    rw [HR.out]
    have hq3 := hqd.below w3.heap.size
    have hz3 : w3.heap.size ≤ wd.heap.size := hq3.size
    have hq4 : Below w.heap.size w (wd.alloc (.cells #[.int .i64 a, .int .i64 b2, .int .i64 c] 73)) := (bnw hB3 hq3).alloc (by have := hB3.size; omega) _
    refine ⟨.inr (.inr ⟨_, _, rfl, rfl, rfl, by have := hB3.size; omega, Blk.new _ _ _⟩), hq4⟩

end Go.Proofs.YtbpfhoihfoojfaaGreatDoor
