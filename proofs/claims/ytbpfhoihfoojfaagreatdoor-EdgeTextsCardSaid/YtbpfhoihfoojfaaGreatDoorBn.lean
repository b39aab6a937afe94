/- The bounds of an edge; conditions: as said. -/
import Derived.Test.YtbpfhoihfoojfaaGreatDoorCk
import Derived.Laws.IdiomCopy
import Derived.ScopeJumps
namespace Go.Proofs.YtbpfhoihfoojfaaGreatDoor
open Go.RowKit

theorem mul64_c {n : Nat} (hn : n ≤ 4) (w : World) : Calls Tryz.prog 121 #[.int .u64 1, .int .u64 n] w fun e w' => e = .returned (.tuple #[.int .u64 0, .int .u64 n]) ∧ w = w' := by
  rcases n with _ | _ | _ | _ | _ | n
  all_goals first
    | omega
    | (go_enter Tryz.func121, Tryz.ntmps121
       go_wp2
       go_ret2
       exact ⟨by kernel_rfl, rfl⟩)

theorem mul_c {n : Nat} (hn : n ≤ 4) (w : World) : Calls Tryz.prog 97 #[.int .u64 1, .int .u64 n] w fun e w' => e = .returned (.tuple #[.int .u64 0, .int .u64 n]) ∧ w = w' := by
  go_enter Tryz.func97, Tryz.ntmps97
  go_wp2_with (go_at_call 121; refine (mul64_c hn _).mono ?_; rintro e w' ⟨rfl, rfl⟩)
  go_ret2
  exact ⟨rfl, rfl⟩

theorem Tryz.info107 : (Tryz.prog.info? 107).map (fun i => (i.zero, i.size, i.bytes)) = some (some (.agg #[.int .i64 0, .int .i64 0]), 2, 16) := by kernel_rfl

section
variable {P : Program} {w : World}
/-- 'copy' of elements of several cells: all is read before anything is written. -/
theorem run_copy_sz (dT sT ty elem : TypeId) (b o dLen dCap : Nat) (a : Addr) (sLen sCap sz : Nat) (cs : List Value)
    (hu : P.underlying dT = some (.slice elem)) (hs : (P.info? elem).map (·.size) = some sz) (hn : cs.length = Nat.min sLen dLen * sz)
    (hsrc : ∀ j v, cs[j]? = some v → w.cell? (a.add j) = some v) (hc : ∀ j, j < cs.length → (w.cell? ⟨b, o + j, none⟩).isSome = true) (hf : ∀ j, j < cs.length → w.frozen? ⟨b, o + j, none⟩ = false) (h1 : ∀ v ∈ cs, v.oneCell' = true) :
    (Builtin.copy_ #[dT, sT] ty #[.slice (some ⟨b, o, none⟩) dLen dCap, .slice (some a) sLen sCap]).run P w = .ok (goInt (Nat.min sLen dLen)) (w.setCells b o cs) := by
  have hl := run_loadCells_list (P := P) w a cs hsrc
  have hst := run_storeCells_cells (P := P) b o cs 0 w (by simpa using hc) (by simpa using hf) h1
  cases hq : P.info? elem with
  | none => simp [hq] at hs
  | some i =>
    have hi : i.size = sz := by simpa [hq] using hs
    simp [Builtin.copy_, run_underlying hu, Builtin.lenOf, Builtin.firstCells, sizeOf, typeInfo, hq, hi, ← hn, hl, hst]

theorem wp_copy_sz {o : Oper} {a : Act} {K : Act → World → Prop} {Q : Exit → Act → World → Prop} (d s : Operand) (dT sT : TypeId)
    (ho : o.op = .call { callee := .builtin .copy, args := #[d, s], argTypes := #[dT, sT] }) (elem : TypeId) (sz : Nat) (hu : P.underlying dT = some (.slice elem)) (hs : (P.info? elem).map (·.size) = some sz)
    {b off dLen dCap sLen sCap : Nat} {ad : Addr} (hd : a.eval d = .slice (some ⟨b, off, none⟩) dLen dCap) (hx : a.eval s = .slice (some ad) sLen sCap) (cs : List Value) (hn : cs.length = Nat.min sLen dLen * sz)
    (hsrc : ∀ j v, cs[j]? = some v → w.cell? (ad.add j) = some v) (hc : ∀ j, j < cs.length → (w.cell? ⟨b, off + j, none⟩).isSome = true) (hf : ∀ j, j < cs.length → w.frozen? ⟨b, off + j, none⟩ = false) (h1 : ∀ v ∈ cs, v.oneCell' = true)
    (h : K (a.put o.dst (goInt (Nat.min sLen dLen))) (w.setCells b off cs)) : o.wp P a w K Q := by
  have hr := run_copy_sz (P := P) (w := w) dT sT o.type elem b off dLen dCap ad sLen sCap sz cs hu hs hn hsrc hc hf h1
  unfold Oper.wp execOp
  simp only [ho, resolve, invoke, builtin, Sem.run_bind, Sem.run_pure, Result.andThen_ok, List.map_toArray, List.map_cons, List.map_nil, hd, hx, hr]
  exact h
end

/-- A block, turned in a stretch. -/
theorem Blk.setCells {b : Nat} {t : TypeId} : ∀ {q' q p r : List Value} {w : World}, Blk b (p ++ (q ++ r)).toArray t w → q.length = q'.length → Blk b (p ++ (q' ++ r)).toArray t (w.setCells b p.length q')
  | [], q, p, r, w, h, hl => by
    obtain rfl : q = [] := List.eq_nil_of_length_eq_zero hl
    exact h
  | x :: q', [], _, _, _, _, hl => by simp at hl
  | x :: q', y :: q, p, r, w, h, hl => by
    have h1 := h.set p.length x
    have e : ((p ++ (y :: q ++ r)).toArray.setIfInBounds p.length x) = ((p ++ [x]) ++ (q ++ r)).toArray := by
      simp [List.set_append_right]
    rw [e] at h1
    have h2 := Blk.setCells (q' := q') (q := q) (p := p ++ [x]) (r := r) h1 (by simpa using hl)
    have e2 : p ++ (x :: q' ++ r) = (p ++ [x]) ++ (q' ++ r) := by simp
    rw [e2, World.setCells]
    rw [List.length_append, List.length_singleton] at h2
    exact h2
theorem below_setCells {B b : Nat} {w0 : World} (hb : B ≤ b) : ∀ {cs : List Value} {o : Nat} {w : World}, Below B w0 w → Below B w0 (w.setCells b o cs)
  | [], _, _, h => h
  | x :: cs, o, _, h => below_setCells hb (cs := cs) (o := o + 1) (h.setCell (p := ⟨b, o, none⟩) hb x)

/-- Ends repeated. -/
theorem step_copy_sz {P : Program} {ops : Array Oper} {o : Oper} {a : Act} {w : World} {K : Act → World → Prop} {Q : Exit → Act → World → Prop} {E : Prop} (hgd : o.guard = none) (d s : Operand) (dT sT : TypeId)
    (ho : o.op = .call { callee := .builtin .copy, args := #[d, s], argTypes := #[dT, sT] }) (elem : TypeId) (sz : Nat) (hu : P.underlying dT = some (.slice elem)) (hs : (P.info? elem).map (·.size) = some sz)
    {b off dLen dCap sLen sCap : Nat} {ad : Addr} (hd : a.eval d = .slice (some ⟨b, off, none⟩) dLen dCap) (hx : a.eval s = .slice (some ad) sLen sCap) (cs : List Value) (hn : cs.length = Nat.min sLen dLen * sz)
    (hsrc : ∀ j v, cs[j]? = some v → w.cell? (ad.add j) = some v) (hc : ∀ j, j < cs.length → (w.cell? ⟨b, off + j, none⟩).isSome = true) (hf : ∀ j, j < cs.length → w.frozen? ⟨b, off + j, none⟩ = false) (h1 : ∀ v ∈ cs, v.oneCell' = true)
    (h : K (a.put o.dst (goInt (Nat.min sLen dLen))) (w.setCells b off cs)) : if Region.wanted o (yielded ops a.tmps) = true then Oper.wp P o a w K Q else E := by
  rw [if_pos (by simp [Region.wanted, hgd])]
  exact wp_copy_sz d s dT sT ho elem sz hu hs hd hx cs hn hsrc hc hf h1 h

theorem Tryz.size107 : (Tryz.prog.info? 107).map (·.size) = some 2 := by kernel_rfl
def zc : List Value := [.int .i64 0, .int .i64 0]
def repC (m n : Nat) : List Value := (List.replicate m ((0 : Int), (9 : Int))).flatMap rcells ++ (List.replicate (n - m) ((0 : Int), (0 : Int))).flatMap rcells
theorem rep_len (m : Nat) (z : Int × Int) : ((List.replicate m z).flatMap rcells).length = m * 2 := by rw [flat_len rcells_len, List.length_replicate]
theorem repC_len {m n : Nat} (h : m ≤ n) : (repC m n).length = n * 2 := by rw [repC, List.length_append, rep_len, rep_len]; omega
theorem repC_next (m k n : Nat) (h : m + k ≤ n) : repC m n = (List.replicate m ((0 : Int), (9 : Int))).flatMap rcells ++ ((List.replicate k ((0 : Int), (0 : Int))).flatMap rcells ++ (List.replicate (n - (m + k)) ((0 : Int), (0 : Int))).flatMap rcells) := by
  rw [repC, ← List.flatMap_append (xs := List.replicate k _), List.replicate_append_replicate, show k + (n - (m + k)) = n - m by omega]
theorem repC_next' (m k n : Nat) : (List.replicate m ((0 : Int), (9 : Int))).flatMap rcells ++ ((List.replicate k ((0 : Int), (9 : Int))).flatMap rcells ++ (List.replicate (n - (m + k)) ((0 : Int), (0 : Int))).flatMap rcells) = repC (m + k) n := by
  rw [← List.append_assoc, ← List.flatMap_append, List.replicate_append_replicate]; rfl
theorem rep_pre {m k n : Nat} (hk : k ≤ m) {j : Nat} {v : Value} : ((List.replicate k ((0 : Int), (9 : Int))).flatMap rcells)[j]? = some v ↔ j < k * 2 ∧ (repC m n)[j]? = some v := by
  have e : repC m n = (List.replicate k ((0 : Int), (9 : Int))).flatMap rcells ++ ((List.replicate (m - k) ((0 : Int), (9 : Int))).flatMap rcells ++ (List.replicate (n - m) ((0 : Int), (0 : Int))).flatMap rcells) := by
    rw [repC, ← List.append_assoc]
    congr 1
    rw [← List.flatMap_append, List.replicate_append_replicate, show k + (m - k) = m by omega]
  rw [e]
  constructor
  · intro h
    have hl := (List.getElem?_eq_some_iff.1 h).1
    rw [List.getElem?_append_left hl]
    rw [rep_len] at hl
    exact ⟨hl, h⟩
  · rintro ⟨h, h2⟩
    rwa [List.getElem?_append_left (by rw [rep_len]; exact h)] at h2
theorem rcells_one (r : Int × Int) : ∀ u ∈ rcells r, u.oneCell' = true := by
  intro u hu
  simp only [rcells, List.mem_cons, List.not_mem_nil, or_false] at hu
  rcases hu with rfl | rfl <;> rfl
theorem cells_one {α : Type} {f : α → List Value} (hf : ∀ a, ∀ u ∈ f a, u.oneCell' = true) (l : List α) : ∀ u ∈ l.flatMap f, u.oneCell' = true := by
  intro u hu
  obtain ⟨a, _, h⟩ := List.mem_flatMap.1 hu
  exact hf a u h
theorem run_make_ends (n : Nat) (hn : n ≤ 1000000) (w : World) :
    (Instr.makeSlice 103 (.int .i64 (n : Int)) (.int .i64 (n : Int))).run Tryz.prog w = .ok (.slice (some ⟨w.heap.size, 0, none⟩) n n) (w.alloc (.cells (madeCells #[.int .i64 0, .int .i64 0] (n * 2)) 107)) := by
  obtain ⟨i, hi, hz, hs, hb⟩ := info_parts Tryz.info107
  have hb' : (i.bytes : Int) * (n : Int) ≤ 281474976710656 := by rw [hb]; omega
  have hr := run_make (P := Tryz.prog) w 103 107 i (.agg #[.int .i64 0, .int .i64 0]) Tryz.underlying103 hi hz .i64 .i64 n n (by omega) (Int.le_refl _) hb' (by omega)
  simp only [Int.toNat_natCast] at hr
  rw [hs] at hr
  exact hr
theorem made_rep {n : Nat} (hn : n ≤ 4) : madeCells #[.int .i64 0, .int .i64 0] (n * 2) = (repC 0 n).toArray := by
  rcases n with _ | _ | _ | _ | _ | n
  all_goals first | omega | kernel_rfl

set_option maxRecDepth 100000 in
set_option maxHeartbeats 1000000 in
theorem repeat_c {n : Nat} (hn : n ≤ 4) (h1 : 1 ≤ n) {w : World} {b : Nat} (h : Blk b #[.int .i64 0, .int .i64 9] 107 w) : Calls Tryz.prog 69 #[.slice (some ⟨b, 0, none⟩) 1 1, .int .i64 n] w fun e w' => ∃ g, e = .returned (.slice (some ⟨g, 0, none⟩) n n) ∧ w.heap.size ≤ g ∧ Blk g ((List.replicate n ((0 : Int), (9 : Int))).flatMap rcells).toArray 107 w' ∧ Below w.heap.size w w' := by
  have c0 := h.cell 0
  have c1 := h.cell 1
  have hlt := h.lt
  have hmk := run_make_ends n (by omega) w
  rw [made_rep hn] at hmk
  have bw : IntKind.u64.wrap ((n : Nat) : Int) = ((n : Nat) : Int) := by
    rcases n with _ | _ | _ | _ | _ | n
    all_goals first | omega | kernel_rfl
  have bw2 : IntKind.i64.wrap ((n : Nat) : Int) = ((n : Nat) : Int) := IntWalk.i64_in _ (by omega)
  have hm1 : Nat.min 1 n = 1 := by have : min 1 n = 1 := by omega
                                   exact this
  have hcp : (Builtin.copy_ #[103, 103] 3 #[.slice (some ⟨w.heap.size, 0, none⟩) n n, .slice (some ⟨b, 0, none⟩) 1 1]).run Tryz.prog (w.alloc (.cells (repC 0 n).toArray 107)) = .ok (goInt (Nat.min 1 n)) ((w.alloc (.cells (repC 0 n).toArray 107)).setCells w.heap.size 0 [.int .i64 0, .int .i64 9]) := by
    refine run_copy_sz 103 103 3 107 w.heap.size 0 n n ⟨b, 0, none⟩ 1 1 2 _ Tryz.underlying103 Tryz.size107 (by rw [hm1]; rfl) ?_ ?_ ?_ ?_
    · intro j v hj
      have ha : (⟨b, 0, none⟩ : Addr).add j = ⟨b, 0 + j, none⟩ := by unfold Addr.add; split <;> simp_all
      rw [ha, (h.alloc _).cell]
      rw [Nat.zero_add]
      simpa using hj
    · intro j hj
      have hn2 : j < (repC 0 n).length := by rw [repC_len (by omega)]; simp at hj; omega
      rw [(Blk.new w (repC 0 n).toArray 107).cell]
      simpa using hn2
    · intro j _
      exact (Blk.new w (repC 0 n).toArray 107).free _
    · simp
      exact ⟨rfl, rfl⟩
  rw [hm1] at hcp
  obtain ⟨W1, hW1⟩ : ∃ W1, W1 = (w.alloc (.cells (repC 0 n).toArray 107)).setCells w.heap.size 0 [.int .i64 0, .int .i64 9] := ⟨_, rfl⟩
  have hE : Blk w.heap.size (repC 1 n).toArray 107 W1 := by
    have h0 : Blk w.heap.size (List.flatMap rcells (List.replicate 0 (0, 9)) ++ (List.flatMap rcells (List.replicate 1 (0, 0)) ++ List.flatMap rcells (List.replicate (n - (0 + 1)) (0, 0)))).toArray 107 (w.alloc (.cells (repC 0 n).toArray 107)) := by
      rw [← repC_next 0 1 n h1]
      exact Blk.new w (repC 0 n).toArray 107
    have h1 := Blk.setCells (q' := (List.replicate 1 ((0 : Int), (9 : Int))).flatMap rcells) h0 (by simp [rcells])
    rw [repC_next' 0 1 n] at h1
    rw [hW1]
    exact h1
  have hB : Below w.heap.size w W1 := by rw [hW1]; exact below_setCells (Nat.le_refl _) ((Below.refl _ w).alloc (Nat.le_refl _) _)
  rw [← hW1] at hcp
  clear hW1
  go_enter Tryz.func69, Tryz.ntmps69
  go_wp2_with (go_at_call 97; refine (mul_c hn _).mono ?_; rintro e w' ⟨rfl, rfl⟩)
  clear c0 c1 hmk hcp bw
  obtain ⟨g, hg⟩ : ∃ g, g = w.heap.size := ⟨_, rfl⟩
  rw [← hg] at hE hB ⊢
  have hg1 : w.heap.size ≤ g := Nat.le_of_eq hg.symm
  clear hg
  go_loopw [8] (fun i wr => ∃ m : Nat, 1 ≤ m ∧ m ≤ n ∧ i = .int .i64 m ∧ Blk g (repC m n).toArray 107 wr ∧ Below g w wr) (fun i _ => n - (intOf i).toNat)
  case atStart => exact ⟨1, by omega, h1, rfl, hE, hB⟩
  case round =>
    obtain ⟨m, hm0, hmn, rfl, hE, hB⟩ := hrel
    have hgw := hE.lt
    by_cases hlt2 : m < n
    · have hne : ¬ n = m := by omega
      obtain ⟨k, hk⟩ : ∃ k, k = Nat.min m (n - m) := ⟨_, rfl⟩
      have hk' : k = min m (n - m) := hk
      have hkm : k ≤ m := by omega
      have hkn : m + k ≤ n := by omega
      have hk1 : 1 ≤ k := by omega
      have HK := Lib.hid hk
      clear hk hk'
      go_wp2_with fail
      refine wp_region_mix2 (.pur 0 (.pur 1 (.pur 2 (.pur 3 (.pur 4 (.pur 5 (.pur 6 (.act 7 (.pur 8 (.pur 9 .fin)))))))))) 7 (fun _ => True) (fun _ => True) (by kernel_rfl) (by kernel_rfl) rfl (by kernel_rfl) trivial (fun wd hqd _ => ?_)
      have hE' := hE.qt hqd
      have hB' := hB.trans ((hqd.below wr.heap.size).mono (Nat.le_of_lt hgw))
      refine mix_pur2 rfl (fun K hK => ?_)
      go_simp
      first | refine ⟨_, fun _ => rfl, hK _ ?_⟩ | refine hK _ ?_
      clear hK K
      refine mix_pur2 rfl (fun K hK => ?_)
      go_simp
      first | refine ⟨_, fun _ => rfl, hK _ ?_⟩ | refine hK _ ?_
      clear hK K
      refine mix_pur2 rfl (fun K hK => ?_)
      go_simp
      first | refine ⟨_, fun _ => rfl, hK _ ?_⟩ | refine hK _ ?_
      clear hK K
      refine mix_pur2 rfl (fun K hK => ?_)
      go_simp
      first | refine ⟨_, fun _ => rfl, hK _ ?_⟩ | refine hK _ ?_
      clear hK K
      refine mix_pur2 rfl (fun K hK => ?_)
      go_simp
      first | refine ⟨_, fun _ => rfl, hK _ ?_⟩ | refine hK _ ?_
      clear hK K
      refine mix_pur2 rfl (fun K hK => ?_)
      go_simp
      first | refine ⟨_, fun _ => rfl, hK _ ?_⟩ | refine hK _ ?_
      clear hK K
      refine mix_pur2 rfl (fun K hK => ?_)
      go_simp
      first | refine ⟨_, fun _ => rfl, hK _ ?_⟩ | refine hK _ ?_
      clear hK K
      refine mix_eff2 rfl true rfl (fun K hK => ?_)
      refine step_copy_sz rfl _ _ 103 103 rfl 107 2 Tryz.underlying103 Tryz.size107 rfl rfl ((List.replicate k ((0 : Int), (9 : Int))).flatMap rcells) ?_ ?_ ?_ ?_ ?_ ?_
      · rw [rep_len, HK.out]
      · intro j v hj
        have ha : (⟨g, 0, none⟩ : Addr).add j = ⟨g, 0 + j, none⟩ := by unfold Addr.add; split <;> simp_all
        rw [ha, hE'.cell, Nat.zero_add]
        have hjl := (List.getElem?_eq_some_iff.1 hj).1
        have hj := ((rep_pre (n := n) hkm).1 hj).2
        rw [rep_len] at hjl
        simpa using hj
      · intro j hj
        rw [hE'.cell]
        rw [rep_len] at hj
        have := repC_len hmn
        simp
        omega
      · exact fun j _ => hE'.free _
      · exact cells_one rcells_one _
      have hE2 := Blk.setCells (q' := (List.replicate k ((0 : Int), (9 : Int))).flatMap rcells) (by rw [← repC_next m k n hkn]; exact hE') (by rw [rep_len, rep_len])
      rw [repC_next', rep_len] at hE2
      have hB2 : Below g w (wd.setCells g (m * 2) ((List.replicate k ((0 : Int), (9 : Int))).flatMap rcells)) := below_setCells (Nat.le_refl _) hB'
      refine hK _ _ trivial ?_
      clear hK K
      refine mix_pur2 rfl (fun K hK => ?_)
      go_simp
      first | refine ⟨_, fun _ => rfl, hK _ ?_⟩ | refine hK _ ?_
      clear hK K
      refine mix_pur2 rfl (fun K hK => ?_)
      go_simp
      first | refine ⟨_, fun _ => rfl, hK _ ?_⟩ | refine hK _ ?_
      clear hK K
      refine mix_done2 ?_
      rw [← HK.out]
      have bk : IntKind.i64.wrap ((m : Int) + (k : Int)) = ((m + k : Nat) : Int) := by rw [IntWalk.i64_in _ (by omega)]; omega
      rw [bk]
      clear hE' hB' hE hB
      generalize wd.setCells g (m * 2) ((List.replicate k ((0 : Int), (9 : Int))).flatMap rcells) = wf at hE2 hB2 ⊢
      go_wp2
      go_roundw
      case rel => exact ⟨m + k, by omega, hkn, rfl, hE2, hB2⟩
      case measure => simp [intOf]; omega
    · obtain rfl : m = n := by omega
      go_wp2
      go_ret
      refine ⟨g, rfl, hg1, ?_, hB.mono hg1⟩
      rw [repC, Nat.sub_self, List.replicate_zero, List.flatMap_nil, List.append_nil] at hE
      exact hE

end Go.Proofs.YtbpfhoihfoojfaaGreatDoor

namespace Go.Proofs.YtbpfhoihfoojfaaGreatDoor
open Go.RowKit

/-- Ends in a block. -/
def EB (g : Nat) (s : Bs) (w : World) : Prop := Blk g (s.flatMap rcells).toArray 107 w
theorem EB.cells {g : Nat} {s : Bs} {w : World} (h : EB g s w) {p : Nat} (hp : p < s.length) : w.cell? ⟨g, p * 2, none⟩ = some (.int .i64 (gl s p)) ∧ w.cell? ⟨g, p * 2 + 1, none⟩ = some (.int .i64 (gh s p)) := by
  have e : s.getD p (0, 0) = s[p] := by rw [List.getD_eq_getElem?_getD, List.getElem?_eq_getElem hp]; rfl
  constructor
  · rw [Blk.cell h]
    have := flat_at rcells_len s p hp 0 (by decide)
    rw [List.getElem?_toArray, gl, e]
    exact this
  · rw [Blk.cell h]
    have := flat_at rcells_len s p hp 1 (by decide)
    rw [List.getElem?_toArray, gh, e]
    exact this
theorem EB.free {g : Nat} {s : Bs} {w : World} (h : EB g s w) (j : Nat) : w.frozen? ⟨g, j, none⟩ = false := Blk.free h j
theorem flat_set : ∀ (s : Bs) (p : Nat), p < s.length → ∀ (v : Int), (s.flatMap rcells).set (p * 2) (.int .i64 v) = (s.set p (v, gh s p)).flatMap rcells ∧ (s.flatMap rcells).set (p * 2 + 1) (.int .i64 v) = (s.set p (gl s p, v)).flatMap rcells
  | [], p, hp, _ => by simp at hp
  | a :: s, 0, _, v => by simp [rcells, gl, gh]
  | a :: s, p + 1, hp, v => by
    obtain ⟨h1, h2⟩ := flat_set s p (by simpa using hp) v
    constructor
    · rw [show (p + 1) * 2 = p * 2 + 2 by omega]
      simp only [List.flatMap_cons, rcells, List.cons_append, List.nil_append, List.set_cons_succ]
      rw [h1]
      simp [gh]
    · rw [show (p + 1) * 2 + 1 = (p * 2 + 1) + 2 by omega]
      simp only [List.flatMap_cons, rcells, List.cons_append, List.nil_append, List.set_cons_succ]
      rw [h2]
      simp [gl]
theorem EB.setLo {g : Nat} {s : Bs} {w : World} (h : EB g s w) {p : Nat} (hp : p < s.length) (v : Int) : EB g (s.set p (v, gh s p)) (w.setCell ⟨g, p * 2, none⟩ (.int .i64 v)) := by
  have := Blk.set h (p * 2) (.int .i64 v)
  rw [List.setIfInBounds_toArray, (flat_set s p hp v).1] at this
  exact this
theorem EB.setHi {g : Nat} {s : Bs} {w : World} (h : EB g s w) {p : Nat} (hp : p < s.length) (v : Int) : EB g (s.set p (gl s p, v)) (w.setCell ⟨g, p * 2 + 1, none⟩ (.int .i64 v)) := by
  have := Blk.set h (p * 2 + 1) (.int .i64 v)
  rw [List.setIfInBounds_toArray, (flat_set s p hp v).2] at this
  exact this

set_option maxHeartbeats 1000000 in
theorem low_c {g bo bc n cap : Nat} {s : Bs × Bool} {w : World} (hO : Blk bo #[.slice (some ⟨g, 0, none⟩) n cap] 103 w) (hE : EB g s.1 w) (hC : Blk bc #[.bool s.2] 4 w) (hl : n = s.1.length) (hgc : g ≠ bc) {p : Nat} (hp : p < s.1.length) (k : Int) :
    Calls Tryz.prog 70 #[.int .i64 p, .int .i64 k, .pointer (some ⟨bo, 0, none⟩), .pointer (some ⟨bc, 0, none⟩)] w fun e w' => e = .returned (.tuple #[]) ∧ EB g (lowS s p k).1 w' ∧ Blk bc #[.bool (lowS s p k).2] 4 w' ∧ Keep (fun q => q = g ∨ q = bc) w w' := by
  obtain ⟨s, b⟩ := s
  simp only at hE hC hl hp ⊢
  subst hl
  have c0 := hO.cell 0
  have c1 := hC.cell 0
  obtain ⟨d0, d1⟩ := hE.cells hp
  have f0 := hE.free (p * 2)
  have f1 := hC.free 0
  by_cases h : gl s p < k
  · have e : lowS (s, b) p k = (s.set p (k, gh s p), true) := by unfold lowS; rw [if_pos h]
    have hE2 := hE.setLo hp k
    have hC2 := (hC.other (a := ⟨g, p * 2, none⟩) (fun e => hgc e.symm) (.int .i64 k)).set 0 (.bool true)
    have hE3 : EB g (s.set p (k, gh s p)) ((w.setCell ⟨g, p * 2, none⟩ (.int .i64 k)).setCell ⟨bc, 0, none⟩ (.bool true)) := Blk.other hE2 hgc _
    have hk : Keep (fun q => q = g ∨ q = bc) w ((w.setCell ⟨g, p * 2, none⟩ (.int .i64 k)).setCell ⟨bc, 0, none⟩ (.bool true)) := (Keep.setCell _ _ _ (.inl rfl)).trans (Keep.setCell _ _ _ (.inr rfl))
    have HE := Lib.hid e
    clear e hE2
    go_enter Tryz.func70, Tryz.ntmps70
    go_wp2
    go_end0
    rw [HE.out]
    exact ⟨rfl, hE3, hC2, hk⟩
  · have e : lowS (s, b) p k = (s, b) := by unfold lowS; rw [if_neg h]
    have HE := Lib.hid e
    clear e
    go_enter Tryz.func70, Tryz.ntmps70
    go_wp2
    go_end0
    rw [HE.out]
    exact ⟨rfl, hE, hC, Keep.refl _ _⟩

set_option maxHeartbeats 1000000 in
theorem high_c {g bo bc n cap : Nat} {s : Bs × Bool} {w : World} (hO : Blk bo #[.slice (some ⟨g, 0, none⟩) n cap] 103 w) (hE : EB g s.1 w) (hC : Blk bc #[.bool s.2] 4 w) (hl : n = s.1.length) (hgc : g ≠ bc) {p : Nat} (hp : p < s.1.length) (k : Int) :
    Calls Tryz.prog 71 #[.int .i64 p, .int .i64 k, .pointer (some ⟨bo, 0, none⟩), .pointer (some ⟨bc, 0, none⟩)] w fun e w' => e = .returned (.tuple #[]) ∧ EB g (highS s p k).1 w' ∧ Blk bc #[.bool (highS s p k).2] 4 w' ∧ Keep (fun q => q = g ∨ q = bc) w w' := by
  obtain ⟨s, b⟩ := s
  simp only at hE hC hl hp ⊢
  subst hl
  have c0 := hO.cell 0
  have c1 := hC.cell 0
  obtain ⟨d0, d1⟩ := hE.cells hp
  have f0 := hE.free (p * 2 + 1)
  have f1 := hC.free 0
  by_cases h : k < gh s p
  · have e : highS (s, b) p k = (s.set p (gl s p, k), true) := by unfold highS; rw [if_pos h]
    have hE2 := hE.setHi hp k
    have hC2 := (hC.other (a := ⟨g, p * 2 + 1, none⟩) (fun e => hgc e.symm) (.int .i64 k)).set 0 (.bool true)
    have hE3 : EB g (s.set p (gl s p, k)) ((w.setCell ⟨g, p * 2 + 1, none⟩ (.int .i64 k)).setCell ⟨bc, 0, none⟩ (.bool true)) := Blk.other hE2 hgc _
    have hk : Keep (fun q => q = g ∨ q = bc) w ((w.setCell ⟨g, p * 2 + 1, none⟩ (.int .i64 k)).setCell ⟨bc, 0, none⟩ (.bool true)) := (Keep.setCell _ _ _ (.inl rfl)).trans (Keep.setCell _ _ _ (.inr rfl))
    have HE := Lib.hid e
    clear e hE2
    go_enter Tryz.func71, Tryz.ntmps71
    go_wp2
    go_end0
    rw [HE.out]
    exact ⟨rfl, hE3, hC2, hk⟩
  · have e : highS (s, b) p k = (s, b) := by unfold highS; rw [if_neg h]
    have HE := Lib.hid e
    clear e
    go_enter Tryz.func71, Tryz.ntmps71
    go_wp2
    go_end0
    rw [HE.out]
    exact ⟨rfl, hE, hC, Keep.refl _ _⟩

end Go.Proofs.YtbpfhoihfoojfaaGreatDoor

namespace Go.Proofs.YtbpfhoihfoojfaaGreatDoor
open Go.RowKit

/-- What bounds keeps in memory. -/
structure BS (N : Nat) (w0 : World) (x : Edg) (n b0 bo bc g : Nat) (v : Value) (s : Bs × Bool) (w : World) : Prop where
  hX : Blk b0 #[.int .i64 (n : Int), .int .i64 x.bend, v] 24 w
  hO : Blk bo #[.slice (some ⟨g, 0, none⟩) n n] 103 w
  hC : Blk bc #[.bool s.2] 4 w
  hE : EB g s.1 w
  len : n = s.1.length
  cls : ClsM (fun k => k < N) w v x.claims
  bel : Below N w0 w
  low : N ≤ b0 ∧ N ≤ bo ∧ N ≤ bc ∧ N ≤ g
  apart : g ≠ bc ∧ g ≠ bo ∧ g ≠ b0 ∧ bc ≠ bo ∧ bc ≠ b0
section
variable {N : Nat} {w0 : World} {x : Edg} {n b0 bo bc g : Nat} {v : Value} {s s' : Bs × Bool} {w w' : World}
theorem BS.keep (h : BS N w0 x n b0 bo bc g v s w) (hk : Keep (fun q => q = g ∨ q = bc) w w') (hE : EB g s'.1 w') (hC : Blk bc #[.bool s'.2] 4 w') (hl : s'.1.length = s.1.length) : BS N w0 x n b0 bo bc g v s' w' := by
  obtain ⟨a1, a2, a3, a4, a5⟩ := h.apart
  obtain ⟨l1, l2, l3, l4⟩ := h.low
  have hg := Blk.lt h.hE
  refine ⟨h.hX.keep (hk.block _ h.hX.lt (by omega)), h.hO.keep (hk.block _ h.hO.lt (by omega)), hC, hE, by rw [hl, ← h.len], h.cls.step hk.size fun k hA hlt => hk.block k hlt (by omega), h.bel.trans (hk.below (by omega) fun k hk' => by omega), h.low, h.apart⟩
theorem BS.call (h : BS N w0 x n b0 bo bc g v s w) (hB : Below w.heap.size w w') : BS N w0 x n b0 bo bc g v s w' := h.keep (Keep.call hB) (Blk.call h.hE hB) (h.hC.call hB) rfl
theorem BS.qt (h : BS N w0 x n b0 bo bc g v s w) (q : Qt w w') : BS N w0 x n b0 bo bc g v s w' := h.call (q.below _)
theorem BS.alloc (h : BS N w0 x n b0 bo bc g v s w) (o : Obj) : BS N w0 x n b0 bo bc g v s (w.alloc o) := h.call ((Below.refl _ w).alloc (Nat.le_refl _) o)
theorem BS.lowC (h : BS N w0 x n b0 bo bc g v s w) {p : Nat} (hp : p < n) (k : Int) :
    Calls Tryz.prog 70 #[.int .i64 p, .int .i64 k, .pointer (some ⟨bo, 0, none⟩), .pointer (some ⟨bc, 0, none⟩)] w fun e w' => e = .returned (.tuple #[]) ∧ BS N w0 x n b0 bo bc g v (lowS s p k) w' ∧ Keep (fun q => q = g ∨ q = bc) w w' :=
  (low_c h.hO h.hE h.hC h.len h.apart.1 (by rw [← h.len]; exact hp) k).mono fun _ _ ⟨h1, h2, h3, h4⟩ => ⟨h1, h.keep h4 h2 h3 lowS_len, h4⟩
theorem BS.highC (h : BS N w0 x n b0 bo bc g v s w) {p : Nat} (hp : p < n) (k : Int) :
    Calls Tryz.prog 71 #[.int .i64 p, .int .i64 k, .pointer (some ⟨bo, 0, none⟩), .pointer (some ⟨bc, 0, none⟩)] w fun e w' => e = .returned (.tuple #[]) ∧ BS N w0 x n b0 bo bc g v (highS s p k) w' ∧ Keep (fun q => q = g ∨ q = bc) w w' :=
  (high_c h.hO h.hE h.hC h.len h.apart.1 (by rw [← h.len]; exact hp) k).mono fun _ _ ⟨h1, h2, h3, h4⟩ => ⟨h1, h.keep h4 h2 h3 highS_len, h4⟩
theorem BS.flag (h : BS N w0 x n b0 bo bc g v s w) (b : Bool) : BS N w0 x n b0 bo bc g v (s.1, b) (w.setCell ⟨bc, 0, none⟩ (.bool b)) :=
  h.keep (Keep.setCell _ _ _ (.inr rfl)) (Blk.other h.hE h.apart.1 _) (h.hC.set 0 (.bool b)) rfl
end

/-- A scope with one label to which the run jumps back. -/
theorem scope_jumps {P : Program} {a : Act} {w : World} {Q : Exit → Act → World → Prop} {c r : Code} (l : Nat) (J : Act → World → Prop) (μ : Act → World → Nat) (hf : findLabel c l = some (.seq .skip r))
    (pass : ∀ a w, J a w → r.wp P (Exit.jump l (fun a' w' => J a' w' ∧ μ a' w' < μ a w) Q) a w)
    (first : (∀ a w, J a w → r.wp P (Exit.jump l J Q) a w) → c.wp P (Exit.jump l J Q) a w) : (Code.scope c).wp P Q a w := by
  refine wp_scope_jumps l J μ hf (first fun a w h => wp_mono (pass a w h) ?_) fun a w h => wp_seq (wp_skip (pass a w h))
  intro e a' w' he
  cases e with
  | goto l => exact ⟨he.1, he.2.1⟩
  | normal => exact he
  | ret => exact he
  | exit _ => exact he
  | panic _ => exact he
  | outgrown => exact he

/-- Ends that are small in size. -/
def Small (s : Bs) (M : Int) : Prop := ∀ p < s.length, -M ≤ gl s p ∧ gl s p ≤ M ∧ -M ≤ gh s p ∧ gh s p ≤ M
def Op.tame : Op → Prop
  | .lowc _ k => -18 ≤ k ∧ k ≤ 18
  | .highc _ k => -18 ≤ k ∧ k ≤ 18
  | .lowv _ _ k => -9 ≤ k ∧ k ≤ 9
  | .highv _ _ k => -9 ≤ k ∧ k ≤ 9
theorem small_low {s : Bs × Bool} {M k : Int} {p : Nat} (h : Small s.1 M) (hp : p < s.1.length) (hk : -(M + 9) ≤ k ∧ k ≤ M + 9) : Small (lowS s p k).1 (M + 9) := by
  intro q hq
  rw [lowS_len] at hq
  have h1 := h q hq
  unfold lowS
  split
  · simp only
    rw [gl_set hp, gh_set hp]
    by_cases e : q = p
    · subst e; simp; omega
    · rw [if_neg e, if_neg e]; omega
  · omega
theorem small_high {s : Bs × Bool} {M k : Int} {p : Nat} (h : Small s.1 M) (hp : p < s.1.length) (hk : -(M + 9) ≤ k ∧ k ≤ M + 9) : Small (highS s p k).1 (M + 9) := by
  intro q hq
  rw [highS_len] at hq
  have h1 := h q hq
  unfold highS
  split
  · simp only
    rw [gl_set hp, gh_set hp]
    by_cases e : q = p
    · subst e; simp; omega
    · rw [if_neg e, if_neg e]; omega
  · omega
theorem small_run {s : Bs × Bool} {o : Op} {M : Int} (h : Small s.1 M) (hM : 9 ≤ M) (hf : o.fits s.1.length) (ht : o.tame) : Small (o.run s).1 (M + 9) := by
  cases o with
  | lowc p k => simp only [Op.tame] at ht; exact small_low h hf (by omega)
  | highc p k => simp only [Op.tame] at ht; exact small_high h hf (by omega)
  | lowv p q k => simp only [Op.tame] at ht; have := h q hf.2; exact small_low h hf.1 (by omega)
  | highv p q k => simp only [Op.tame] at ht; have := h q hf.2; exact small_high h hf.1 (by omega)
theorem small_mono {s : Bs} {M M' : Int} (h : Small s M) (hM : M ≤ M') : Small s M' := fun p hp => by have := h p hp; omega
def SB (x : Edg) (s : Bs) (p : Nat) : Bs × Bool := ((List.range p).flatMap (opsB x.bend)).foldl Op.run (s, false)
theorem SB_succ (x : Edg) (s : Bs) (p : Nat) : SB x s (p + 1) = highS (highS (lowS (lowS (SB x s p) p (gl (SB x s p).1 (p + 1) - x.bend)) (p + 1) (gl (lowS (SB x s p) p (gl (SB x s p).1 (p + 1) - x.bend)).1 p - x.bend)) p
    (gh (lowS (lowS (SB x s p) p (gl (SB x s p).1 (p + 1) - x.bend)) (p + 1) (gl (lowS (SB x s p) p (gl (SB x s p).1 (p + 1) - x.bend)).1 p - x.bend)).1 (p + 1) + x.bend)) (p + 1)
    (gh (highS (lowS (lowS (SB x s p) p (gl (SB x s p).1 (p + 1) - x.bend)) (p + 1) (gl (lowS (SB x s p) p (gl (SB x s p).1 (p + 1) - x.bend)).1 p - x.bend)) p
    (gh (lowS (lowS (SB x s p) p (gl (SB x s p).1 (p + 1) - x.bend)) (p + 1) (gl (lowS (SB x s p) p (gl (SB x s p).1 (p + 1) - x.bend)).1 p - x.bend)).1 (p + 1) + x.bend)).1 p + x.bend) := by
  unfold SB
  rw [List.range_succ, List.flatMap_append, List.foldl_append]
  rfl

def SC (x : Edg) (s : Bs × Bool) (k : Nat) : Bs × Bool := ((x.claims.take k).flatMap opsC).foldl Op.run s
theorem SC_succ {x : Edg} {s : Bs × Bool} {k : Nat} (hk : k < x.claims.length) : SC x s (k + 1) = (opsC x.claims[k]).foldl Op.run (SC x s k) := by
  unfold SC
  rw [List.take_succ_eq_append_getElem hk, List.flatMap_append, List.foldl_append]
  simp
theorem SC_all (x : Edg) (s : Bs) : SC x (SB x s (x.n - 1)) x.claims.length = passF x s := by
  unfold SC SB passF opsX
  rw [List.take_length, List.foldl_append]

/-- The measure of a pass, off the frame and the memory. -/
def muC : List Value → Int
  | .int _ a :: .int _ b :: r => b - a + muC r
  | _ => 0
theorem muC_eq : ∀ s : Bs, muC (s.flatMap rcells) = mu s
  | [] => rfl
  | a :: s => by
    have := muC_eq s
    simp only [List.flatMap_cons, rcells, List.cons_append, List.nil_append, muC, mu, List.map_cons, List.sum_cons] at this ⊢
    rw [this]
def muG (w : World) (g : Nat) : Nat := match w.heap[g]? with
  | some (Obj.cells c _ _) => (muC c.toList).toNat
  | _ => 0
def muO (w : World) (bo : Nat) : Nat := match w.heap[bo]? with
  | some (Obj.cells c _ _) => match c[0]? with
    | some (Value.slice (some ad) _ _) => muG w ad.block
    | _ => 0
  | _ => 0
def muA (a : Act) (w : World) : Nat := match a.tmps[4]? with
  | some (Value.pointer (some ad)) => muO w ad.block
  | _ => 0
theorem muA_eq {N : Nat} {w0 : World} {x : Edg} {n b0 bo bc g : Nat} {v : Value} {s : Bs × Bool} {w : World} (h : BS N w0 x n b0 bo bc g v s w) {a : Act} (ha : a.tmps[4]? = some (.pointer (some ⟨bo, 0, none⟩))) : muA a w = (mu s.1).toNat := by
  have h1 := h.hO
  have h2 := h.hE
  unfold EB at h2
  unfold Blk at h1 h2
  simp [muA, muO, muG, ha, h1, h2, muC_eq]

/-! What the type switch says. -/
theorem ta133_133 (v : Value) (w : World) : (Instr.typeAssert (.iface 80 v) 77 80 true).run Tryz.prog w = .ok (.tuple #[v, .bool true]) w := by kernel_rfl
theorem ta135_133 (v : Value) (w : World) : (Instr.typeAssert (.iface 82 v) 77 80 true).run Tryz.prog w = .ok (.tuple #[.agg #[.int .i64 0, .int .i64 0], .bool false]) w := by kernel_rfl
theorem ta135_135 (v : Value) (w : World) : (Instr.typeAssert (.iface 82 v) 77 82 true).run Tryz.prog w = .ok (.tuple #[v, .bool true]) w := by kernel_rfl
theorem ta136_133 (v : Value) (w : World) : (Instr.typeAssert (.iface 83 v) 77 80 true).run Tryz.prog w = .ok (.tuple #[.agg #[.int .i64 0, .int .i64 0], .bool false]) w := by kernel_rfl
theorem ta136_135 (v : Value) (w : World) : (Instr.typeAssert (.iface 83 v) 77 82 true).run Tryz.prog w = .ok (.tuple #[.agg #[.int .i64 0, .int .i64 0, .int .i64 0], .bool false]) w := by kernel_rfl
theorem ta136_136 (v : Value) (w : World) : (Instr.typeAssert (.iface 83 v) 77 83 true).run Tryz.prog w = .ok (.tuple #[v, .bool true]) w := by kernel_rfl
theorem ta137_133 (v : Value) (w : World) : (Instr.typeAssert (.iface 84 v) 77 80 true).run Tryz.prog w = .ok (.tuple #[.agg #[.int .i64 0, .int .i64 0], .bool false]) w := by kernel_rfl
theorem ta137_135 (v : Value) (w : World) : (Instr.typeAssert (.iface 84 v) 77 82 true).run Tryz.prog w = .ok (.tuple #[.agg #[.int .i64 0, .int .i64 0, .int .i64 0], .bool false]) w := by kernel_rfl
theorem ta137_136 (v : Value) (w : World) : (Instr.typeAssert (.iface 84 v) 77 83 true).run Tryz.prog w = .ok (.tuple #[.agg #[.int .i64 0, .int .i64 0], .bool false]) w := by kernel_rfl
theorem ta137_137 (v : Value) (w : World) : (Instr.typeAssert (.iface 84 v) 77 84 true).run Tryz.prog w = .ok (.tuple #[v, .bool true]) w := by kernel_rfl
theorem ta139_133 (v : Value) (w : World) : (Instr.typeAssert (.iface 86 v) 77 80 true).run Tryz.prog w = .ok (.tuple #[.agg #[.int .i64 0, .int .i64 0], .bool false]) w := by kernel_rfl
theorem ta139_135 (v : Value) (w : World) : (Instr.typeAssert (.iface 86 v) 77 82 true).run Tryz.prog w = .ok (.tuple #[.agg #[.int .i64 0, .int .i64 0, .int .i64 0], .bool false]) w := by kernel_rfl
theorem ta139_136 (v : Value) (w : World) : (Instr.typeAssert (.iface 86 v) 77 83 true).run Tryz.prog w = .ok (.tuple #[.agg #[.int .i64 0, .int .i64 0], .bool false]) w := by kernel_rfl
theorem ta139_137 (v : Value) (w : World) : (Instr.typeAssert (.iface 86 v) 77 84 true).run Tryz.prog w = .ok (.tuple #[.agg #[.int .i64 0, .int .i64 0], .bool false]) w := by kernel_rfl
theorem ta139_139 (v : Value) (w : World) : (Instr.typeAssert (.iface 86 v) 77 86 true).run Tryz.prog w = .ok (.tuple #[v, .bool true]) w := by kernel_rfl

/-- What holds at the label. -/
def JB (N : Nat) (w0 : World) (x : Edg) (n : Nat) (v : Value) (a : Act) (w : World) : Prop :=
  ∃ b0 bo bc g s b, BS N w0 x n b0 bo bc g v (s, b) w ∧ Pass x s ∧ (∀ p < x.n, gl s p ≤ gh s p) ∧ ∃ u2 u3 u8 u9 u10 u11 u12 u13 u14 u15 u16 u17 u18 u19 u20 u21 u22 u23 u24 u25 u26 u27 u28 u29 u30 u31 u32 u33 u34 u35 u36 u37 u38 u39 u40 u41 u42 u43 u44 u45 u46 u47 u48 u49 u50 u51 u52 u53 u54 u55 u56 u57 u58 u59 u60 u61 u62 u63 u64 u65 u66 u67 u68 u69 u70 u71 u72 u73 u74 u75 u76 u77 u78 u79 u80 u81 u82 u83 u84 u85 u86 u87 u88 u89 u90 u91 u92 u93 u94 u95 u96 u97 u98 u99 u100 u101 u102 u103 u104 u105 u106 u107 u108 u109 u110 u111 u112 u113 u114 u115 u116 u117 u118 u119 u120 u121 u122 u123 u124 u125 u126 u127 u128 u129 u130 u131 u132 u133 u134 u135 u136 u137 u138 u139 u140 u141 u142 u143 u144 u145 u146 u147 u148 u149 u150 u151 u152 u153 u154 u155 u156 u157 u158 u159 u160 u161 u162 u163 u164 u165 u166 u167 u168 u169 u170 u171 u172 u173 u174 u175 u176 u177 u178 u179 u180 u181 u182 u183 u184 u185 u186, a = ⟨#[.agg #[.int .i64 (n : Int), .int .i64 x.bend, v], .pointer (some ⟨b0, 0, none⟩), u2, u3, .pointer (some ⟨bo, 0, none⟩), .pointer (some ⟨bc, 0, none⟩), .func (.func 70) #[] #[.pointer (some ⟨bo, 0, none⟩), .pointer (some ⟨bc, 0, none⟩)], .func (.func 71) #[] #[.pointer (some ⟨bo, 0, none⟩), .pointer (some ⟨bc, 0, none⟩)], u8, u9, u10, u11, u12, u13, u14, u15, u16, u17, u18, u19, u20, u21, u22, u23, u24, u25, u26, u27, u28, u29, u30, u31, u32, u33, u34, u35, u36, u37, u38, u39, u40, u41, u42, u43, u44, u45, u46, u47, u48, u49, u50, u51, u52, u53, u54, u55, u56, u57, u58, u59, u60, u61, u62, u63, u64, u65, u66, u67, u68, u69, u70, u71, u72, u73, u74, u75, u76, u77, u78, u79, u80, u81, u82, u83, u84, u85, u86, u87, u88, u89, u90, u91, u92, u93, u94, u95, u96, u97, u98, u99, u100, u101, u102, u103, u104, u105, u106, u107, u108, u109, u110, u111, u112, u113, u114, u115, u116, u117, u118, u119, u120, u121, u122, u123, u124, u125, u126, u127, u128, u129, u130, u131, u132, u133, u134, u135, u136, u137, u138, u139, u140, u141, u142, u143, u144, u145, u146, u147, u148, u149, u150, u151, u152, u153, u154, u155, u156, u157, u158, u159, u160, u161, u162, u163, u164, u165, u166, u167, u168, u169, u170, u171, u172, u173, u174, u175, u176, u177, u178, u179, u180, u181, u182, u183, u184, u185, u186], []⟩

set_option maxRecDepth 100000 in
set_option maxHeartbeats 4000000 in
theorem bounds_z {A : Nat → Prop} {w : World} {x : Edg} {v : Value} (h : ClsM A w v x.claims) (hx : x.Ok) :
    Calls Tryz.prog 44 #[.agg #[.int .i64 x.points, .int .i64 x.bend, v]] w fun e w' => ∃ v' b, e = .returned (.tuple #[v', .bool b]) ∧ Below w.heap.size w w' ∧ ((b = false ∧ v' = .slice none 0 0 ∧ bndF x = none) ∨ (b = true ∧ ∃ s g, IsBnd x s ∧ v' = .slice (some ⟨g, 0, none⟩) x.n x.n ∧ w.heap.size ≤ g ∧ EB g s w')) := by
  obtain ⟨n, hn⟩ : ∃ n : Nat, x.points = (n : Int) := ⟨x.points.toNat, by have := hx.p; omega⟩
  have hn1 : 1 ≤ n ∧ n ≤ 4 := by have := hx.p; omega
  have hxn : x.n = n := by unfold Edg.n; omega
  have HN := Lib.hid hn
  have HX := Lib.hid hxn
  rw [hn]
  obtain ⟨a1, c1, rfl, hc1, hm1⟩ := h.shape
  have n1 := h.len
  obtain ⟨w1, hw1⟩ : ∃ w1, w1 = (w.alloc (.cells #[.int .i64 (n : Int), .int .i64 x.bend, .slice a1 x.claims.length c1] 24)).alloc (.cells #[.int .i64 0, .int .i64 9] 107) := ⟨_, rfl⟩
  have hX1 : Blk w.heap.size #[.int .i64 (n : Int), .int .i64 x.bend, .slice a1 x.claims.length c1] 24 w1 := by rw [hw1]; exact (Blk.new w _ _).alloc _
  have hL1 : Blk (w.heap.size + 1) #[.int .i64 0, .int .i64 9] 107 w1 := by rw [hw1]; exact blk_at (by simp) _ _
  have hB1 : Below w.heap.size w w1 := by rw [hw1]; exact ((Below.refl _ w).alloc (Nat.le_refl _) _).alloc (by simp) _
  clear hn hxn
  go_enter Tryz.func44, Tryz.ntmps44
  go_upto_region 1 with fail
  refine scope_jumps 0 (JB w.heap.size w x n (.slice a1 x.claims.length c1)) muA rfl ?pass (fun key => ?first)
  case first =>
    have KEY := Lib.hid key
    clear key
    go_wp2_with fail
    rw [← hw1]
    refine (repeat_c hn1.2 hn1.1 hL1).mono ?_
    rintro e w2 ⟨g, rfl, hg, hE2, hB2⟩
    go_upto_region 5 with fail
    refine wp_label ?_
    have hbs : BS w.heap.size w x n w.heap.size w2.heap.size (w2.heap.size + 1) g (.slice a1 x.claims.length c1) (List.replicate n (0, 9), false) ((w2.alloc (.cells #[.slice (some ⟨g, 0, none⟩) n n] 103)).alloc (.cells #[.bool false] 4)) := by
      have hs1 := hB1.size
      have hs2 := hB2.size
      have hl1 := hX1.lt
      have hgl := Blk.lt hE2
      have hs3 : w.heap.size + 2 ≤ w1.heap.size := by rw [hw1]; simp
      refine ⟨((hX1.call hB2).alloc _).alloc _, (Blk.new w2 _ _).alloc _, blk_at (by simp) _ _, Blk.alloc (Blk.alloc hE2 _) _, List.length_replicate.symm, ?_, ?_, by omega, by omega⟩
      · exact (((h.wide fun k _ hk => hk).below hB1 fun k hk _ => hk).below (hB2.mono hs1) fun k hk _ => hk).below (((Below.refl w.heap.size w2).alloc (by omega) _).alloc (by simp; omega) _) fun k hk _ => hk
      · exact hB1.trans (((hB2.mono hs1).alloc (by omega) _).alloc (by simp; omega) _)
    rename_i hK
    refine hK _ _ (KEY.out _ _ ⟨_, _, _, _, _, _, hbs, ?_, ?_, by (repeat apply Exists.intro); rfl⟩)
    · rw [← HX.out]; exact Pass.start
    · intro p hp
      have h1 : gl (List.replicate n ((0 : Int), (9 : Int))) p = 0 ∧ gh (List.replicate n ((0 : Int), (9 : Int))) p = 9 := by
        unfold gl gh
        rw [List.getD_eq_getElem?_getD, List.getElem?_replicate, if_pos (by rw [← HX.out]; exact hp)]
        exact ⟨rfl, rfl⟩
      omega
  case pass =>
    intro a' wa h'
    obtain ⟨b0, bo, bc, g, s, b, hbs, hP, hle, h'⟩ := h'
    obtain ⟨u2, h'⟩ := h'
    obtain ⟨u3, h'⟩ := h'
    obtain ⟨u8, h'⟩ := h'
    obtain ⟨u9, h'⟩ := h'
    obtain ⟨u10, h'⟩ := h'
    obtain ⟨u11, h'⟩ := h'
    obtain ⟨u12, h'⟩ := h'
    obtain ⟨u13, h'⟩ := h'
    obtain ⟨u14, h'⟩ := h'
    obtain ⟨u15, h'⟩ := h'
    obtain ⟨u16, h'⟩ := h'
    obtain ⟨u17, h'⟩ := h'
    obtain ⟨u18, h'⟩ := h'
    obtain ⟨u19, h'⟩ := h'
    obtain ⟨u20, h'⟩ := h'
    obtain ⟨u21, h'⟩ := h'
    obtain ⟨u22, h'⟩ := h'
    obtain ⟨u23, h'⟩ := h'
    obtain ⟨u24, h'⟩ := h'
    obtain ⟨u25, h'⟩ := h'
    obtain ⟨u26, h'⟩ := h'
    obtain ⟨u27, h'⟩ := h'
    obtain ⟨u28, h'⟩ := h'
    obtain ⟨u29, h'⟩ := h'
    obtain ⟨u30, h'⟩ := h'
    obtain ⟨u31, h'⟩ := h'
    obtain ⟨u32, h'⟩ := h'
    obtain ⟨u33, h'⟩ := h'
    obtain ⟨u34, h'⟩ := h'
    obtain ⟨u35, h'⟩ := h'
    obtain ⟨u36, h'⟩ := h'
    obtain ⟨u37, h'⟩ := h'
    obtain ⟨u38, h'⟩ := h'
    obtain ⟨u39, h'⟩ := h'
    obtain ⟨u40, h'⟩ := h'
    obtain ⟨u41, h'⟩ := h'
    obtain ⟨u42, h'⟩ := h'
    obtain ⟨u43, h'⟩ := h'
    obtain ⟨u44, h'⟩ := h'
    obtain ⟨u45, h'⟩ := h'
    obtain ⟨u46, h'⟩ := h'
    obtain ⟨u47, h'⟩ := h'
    obtain ⟨u48, h'⟩ := h'
    obtain ⟨u49, h'⟩ := h'
    obtain ⟨u50, h'⟩ := h'
    obtain ⟨u51, h'⟩ := h'
    obtain ⟨u52, h'⟩ := h'
    obtain ⟨u53, h'⟩ := h'
    obtain ⟨u54, h'⟩ := h'
    obtain ⟨u55, h'⟩ := h'
    obtain ⟨u56, h'⟩ := h'
    obtain ⟨u57, h'⟩ := h'
    obtain ⟨u58, h'⟩ := h'
    obtain ⟨u59, h'⟩ := h'
    obtain ⟨u60, h'⟩ := h'
    obtain ⟨u61, h'⟩ := h'
    obtain ⟨u62, h'⟩ := h'
    obtain ⟨u63, h'⟩ := h'
    obtain ⟨u64, h'⟩ := h'
    obtain ⟨u65, h'⟩ := h'
    obtain ⟨u66, h'⟩ := h'
    obtain ⟨u67, h'⟩ := h'
    obtain ⟨u68, h'⟩ := h'
    obtain ⟨u69, h'⟩ := h'
    obtain ⟨u70, h'⟩ := h'
    obtain ⟨u71, h'⟩ := h'
    obtain ⟨u72, h'⟩ := h'
    obtain ⟨u73, h'⟩ := h'
    obtain ⟨u74, h'⟩ := h'
    obtain ⟨u75, h'⟩ := h'
    obtain ⟨u76, h'⟩ := h'
    obtain ⟨u77, h'⟩ := h'
    obtain ⟨u78, h'⟩ := h'
    obtain ⟨u79, h'⟩ := h'
    obtain ⟨u80, h'⟩ := h'
    obtain ⟨u81, h'⟩ := h'
    obtain ⟨u82, h'⟩ := h'
    obtain ⟨u83, h'⟩ := h'
    obtain ⟨u84, h'⟩ := h'
    obtain ⟨u85, h'⟩ := h'
    obtain ⟨u86, h'⟩ := h'
    obtain ⟨u87, h'⟩ := h'
    obtain ⟨u88, h'⟩ := h'
    obtain ⟨u89, h'⟩ := h'
    obtain ⟨u90, h'⟩ := h'
    obtain ⟨u91, h'⟩ := h'
    obtain ⟨u92, h'⟩ := h'
    obtain ⟨u93, h'⟩ := h'
    obtain ⟨u94, h'⟩ := h'
    obtain ⟨u95, h'⟩ := h'
    obtain ⟨u96, h'⟩ := h'
    obtain ⟨u97, h'⟩ := h'
    obtain ⟨u98, h'⟩ := h'
    obtain ⟨u99, h'⟩ := h'
    obtain ⟨u100, h'⟩ := h'
    obtain ⟨u101, h'⟩ := h'
    obtain ⟨u102, h'⟩ := h'
    obtain ⟨u103, h'⟩ := h'
    obtain ⟨u104, h'⟩ := h'
    obtain ⟨u105, h'⟩ := h'
    obtain ⟨u106, h'⟩ := h'
    obtain ⟨u107, h'⟩ := h'
    obtain ⟨u108, h'⟩ := h'
    obtain ⟨u109, h'⟩ := h'
    obtain ⟨u110, h'⟩ := h'
    obtain ⟨u111, h'⟩ := h'
    obtain ⟨u112, h'⟩ := h'
    obtain ⟨u113, h'⟩ := h'
    obtain ⟨u114, h'⟩ := h'
    obtain ⟨u115, h'⟩ := h'
    obtain ⟨u116, h'⟩ := h'
    obtain ⟨u117, h'⟩ := h'
    obtain ⟨u118, h'⟩ := h'
    obtain ⟨u119, h'⟩ := h'
    obtain ⟨u120, h'⟩ := h'
    obtain ⟨u121, h'⟩ := h'
    obtain ⟨u122, h'⟩ := h'
    obtain ⟨u123, h'⟩ := h'
    obtain ⟨u124, h'⟩ := h'
    obtain ⟨u125, h'⟩ := h'
    obtain ⟨u126, h'⟩ := h'
    obtain ⟨u127, h'⟩ := h'
    obtain ⟨u128, h'⟩ := h'
    obtain ⟨u129, h'⟩ := h'
    obtain ⟨u130, h'⟩ := h'
    obtain ⟨u131, h'⟩ := h'
    obtain ⟨u132, h'⟩ := h'
    obtain ⟨u133, h'⟩ := h'
    obtain ⟨u134, h'⟩ := h'
    obtain ⟨u135, h'⟩ := h'
    obtain ⟨u136, h'⟩ := h'
    obtain ⟨u137, h'⟩ := h'
    obtain ⟨u138, h'⟩ := h'
    obtain ⟨u139, h'⟩ := h'
    obtain ⟨u140, h'⟩ := h'
    obtain ⟨u141, h'⟩ := h'
    obtain ⟨u142, h'⟩ := h'
    obtain ⟨u143, h'⟩ := h'
    obtain ⟨u144, h'⟩ := h'
    obtain ⟨u145, h'⟩ := h'
    obtain ⟨u146, h'⟩ := h'
    obtain ⟨u147, h'⟩ := h'
    obtain ⟨u148, h'⟩ := h'
    obtain ⟨u149, h'⟩ := h'
    obtain ⟨u150, h'⟩ := h'
    obtain ⟨u151, h'⟩ := h'
    obtain ⟨u152, h'⟩ := h'
    obtain ⟨u153, h'⟩ := h'
    obtain ⟨u154, h'⟩ := h'
    obtain ⟨u155, h'⟩ := h'
    obtain ⟨u156, h'⟩ := h'
    obtain ⟨u157, h'⟩ := h'
    obtain ⟨u158, h'⟩ := h'
    obtain ⟨u159, h'⟩ := h'
    obtain ⟨u160, h'⟩ := h'
    obtain ⟨u161, h'⟩ := h'
    obtain ⟨u162, h'⟩ := h'
    obtain ⟨u163, h'⟩ := h'
    obtain ⟨u164, h'⟩ := h'
    obtain ⟨u165, h'⟩ := h'
    obtain ⟨u166, h'⟩ := h'
    obtain ⟨u167, h'⟩ := h'
    obtain ⟨u168, h'⟩ := h'
    obtain ⟨u169, h'⟩ := h'
    obtain ⟨u170, h'⟩ := h'
    obtain ⟨u171, h'⟩ := h'
    obtain ⟨u172, h'⟩ := h'
    obtain ⟨u173, h'⟩ := h'
    obtain ⟨u174, h'⟩ := h'
    obtain ⟨u175, h'⟩ := h'
    obtain ⟨u176, h'⟩ := h'
    obtain ⟨u177, h'⟩ := h'
    obtain ⟨u178, h'⟩ := h'
    obtain ⟨u179, h'⟩ := h'
    obtain ⟨u180, h'⟩ := h'
    obtain ⟨u181, h'⟩ := h'
    obtain ⟨u182, h'⟩ := h'
    obtain ⟨u183, h'⟩ := h'
    obtain ⟨u184, h'⟩ := h'
    obtain ⟨u185, h'⟩ := h'
    obtain ⟨u186, h'⟩ := h'
    subst h'
    have hb0 := hbs.flag false
    have c0 := hbs.hC.cell 0
    have f0 := hbs.hC.free 0
    have hn0 := (hbs.hX.other (a := ⟨bc, 0, none⟩) (fun e => hbs.apart.2.2.2.2 e.symm) (.bool false)).cell 0
    have bw : IntKind.i64.wrap ((n : Int) - 1) = ((n - 1 : Nat) : Int) := by rw [IntWalk.i64_in _ (by omega)]; omega
    go_upto_region 6 with fail
    clear c0 f0
    generalize wa.setCell ⟨bc, 0, none⟩ (.bool false) = wb at hb0 hn0 ⊢
    have hsm : Small s 9 := fun p hp => by
      have h1 := hP.reach p (by rw [← hP.len]; exact hp)
      have h2 := hle p (by rw [← hP.len]; exact hp)
      omega
    go_wp2_with fail
    go_loopw [28] (fun i wr => ∃ p S1, p ≤ n - 1 ∧ i = .int .i64 (p : Nat) ∧ Hid (S1 = SB x s p) ∧ BS w.heap.size w x n b0 bo bc g (.slice a1 x.claims.length c1) S1 wr ∧ Small S1.1 (9 + 36 * (p : Int))) (fun i _ => n - (intOf i).toNat)
    case atStart => exact ⟨0, _, Nat.zero_le _, rfl, Lib.hid rfl, hb0, hsm⟩
    case round =>
     obtain ⟨p, S1, hp, rfl, HS1, hb1, hs1⟩ := hrel
     by_cases hlt : p < n - 1
     · obtain ⟨p1, hp1⟩ : ∃ p1, p1 = p + 1 := ⟨_, rfl⟩
       have bp : IntKind.i64.wrap ((p : Int) + 1) = (p1 : Int) := by rw [IntWalk.i64_in _ (by omega)]; omega
       have hp1a : p1 ≤ p + 1 := by omega
       have hp1b : p + 1 ≤ p1 := by omega
       have hpn1 : p1 < n := by omega
       have hpn : p < n := by omega
       have HP1 := Lib.hid hp1
       clear hp1
       obtain ⟨M, hM⟩ : ∃ M : Int, M = 9 + 36 * (p : Int) := ⟨_, rfl⟩
       rw [← hM] at hs1
       have hM0 : 9 ≤ M := by omega
       have hM1 : M ≤ 200 := by omega
       have HM := Lib.hid hM
       clear hM hn0 hb0
       have bk1 : IntKind.i64.wrap (gl S1.1 p1 - x.bend) = gl S1.1 p1 - x.bend := IntWalk.i64_in _ (by have := hs1 p1 (by rw [← hb1.len]; omega); have := hx.b; have := hM1; omega)
       have q1 : p1 < S1.1.length := by rw [← hb1.len]; omega
       go_wp2_with fail
       refine wp_region_mix2 (.pur 0 (.pur 1 (.one 2 (.pur 3 (.pur 4 (.pur 5 (.pur 6 (.one 7 (.pur 8 (.one 9 (.pur 10 (.act 11 .fin)))))))))))) 11 (BS w.heap.size w x n b0 bo bc g (.slice a1 x.claims.length c1) S1) (fun _ => True) (by kernel_rfl) (by kernel_rfl) rfl (by kernel_rfl) (hb1.qt ((Qt.refl _).drewN 1)) (fun wd1 hq1 _ => ?_)
       have hd1 := hb1.qt hq1
       refine mix_pur2 rfl (fun K hK => ?_)
       go_simp
       first | refine ⟨_, fun _ => rfl, hK _ ?_⟩ | refine hK _ ?_
       clear hK K
       refine mix_pur2 rfl (fun K hK => ?_)
       go_simp
       first | refine ⟨_, fun _ => rfl, hK _ ?_⟩ | refine hK _ ?_
       clear hK K
       refine mix_load2 rfl rfl rfl (.slice (some ⟨g, 0, none⟩) n n) (fun w' h => by have h : (BS w.heap.size w x n b0 bo bc g (.slice a1 x.claims.length c1) S1) w' := h; have c0 := h.hO.cell 0; go_simp) rfl ?_
       refine mix_pur2 rfl (fun K hK => ?_)
       go_simp
       first | refine ⟨_, fun _ => rfl, hK _ ?_⟩ | refine hK _ ?_
       clear hK K
       refine mix_pur2 rfl (fun K hK => ?_)
       go_simp
       first | refine ⟨_, fun _ => rfl, hK _ ?_⟩ | refine hK _ ?_
       clear hK K
       refine mix_pur2 rfl (fun K hK => ?_)
       go_simp
       first | refine ⟨_, fun _ => rfl, hK _ ?_⟩ | refine hK _ ?_
       clear hK K
       refine mix_pur2 rfl (fun K hK => ?_)
       go_simp
       first | refine ⟨_, fun _ => rfl, hK _ ?_⟩ | refine hK _ ?_
       clear hK K
       refine mix_load2 rfl rfl rfl (.int .i64 (gl S1.1 p1)) (fun w' h => by have h : (BS w.heap.size w x n b0 bo bc g (.slice a1 x.claims.length c1) S1) w' := h; have c0 := h.hE.cells q1; go_simp) rfl ?_
       refine mix_pur2 rfl (fun K hK => ?_)
       go_simp
       first | refine ⟨_, fun _ => rfl, hK _ ?_⟩ | refine hK _ ?_
       clear hK K
       refine mix_load2 rfl rfl rfl (.int .i64 x.bend) (fun w' h => by have h : (BS w.heap.size w x n b0 bo bc g (.slice a1 x.claims.length c1) S1) w' := h; have c0 := h.hX.cell 1; go_simp) rfl ?_
       refine mix_pur2 rfl (fun K hK => ?_)
       go_simp
       first | refine ⟨_, fun _ => rfl, hK _ ?_⟩ | refine hK _ ?_
       clear hK K
       refine mix_eff2 rfl true rfl (fun K hK => ?_)
       go_simp
       refine (hd1.lowC (p := p) (by omega) (gl S1.1 p1 - x.bend)).mono ?_
       rintro e w2 ⟨rfl, hb2, -⟩
       refine hK _ _ trivial ?_
       clear hK K
       refine mix_done2 ?_
       obtain ⟨S2, hS2⟩ : ∃ S2, S2 = lowS S1 p (gl S1.1 p1 - x.bend) := ⟨_, rfl⟩
       rw [← hS2] at hb2
       have hs2 : Small S2.1 (M + 9) := by rw [hS2]; exact small_run (s := S1) (o := .lowv p p1 x.bend) hs1 (by omega) (by have := hb1.len; exact ⟨by omega, by omega⟩) (by have := hx.b; exact ⟨by omega, by omega⟩)
       have HS2 := Lib.hid hS2
       clear hS2 bk1 hd1
       have bk2 : IntKind.i64.wrap (gl S2.1 p - x.bend) = gl S2.1 p - x.bend := IntWalk.i64_in _ (by have := hs2 p (by rw [← hb2.len]; omega); have := hx.b; have := hM1; omega)
       have q2 : p < S2.1.length := by rw [← hb2.len]; omega
       go_wp2_with fail
       refine wp_region_mix2 (.pur 0 (.pur 1 (.pur 2 (.one 3 (.pur 4 (.pur 5 (.pur 6 (.one 7 (.pur 8 (.one 9 (.pur 10 (.act 11 .fin)))))))))))) 11 (BS w.heap.size w x n b0 bo bc g (.slice a1 x.claims.length c1) S2) (fun _ => True) (by kernel_rfl) (by kernel_rfl) rfl (by kernel_rfl) (hb2.qt ((Qt.refl _).drewN 1)) (fun wd2 hq2 _ => ?_)
       have hd2 := hb2.qt hq2
       refine mix_pur2 rfl (fun K hK => ?_)
       go_simp
       first | refine ⟨_, fun _ => rfl, hK _ ?_⟩ | refine hK _ ?_
       clear hK K
       refine mix_pur2 rfl (fun K hK => ?_)
       go_simp
       first | refine ⟨_, fun _ => rfl, hK _ ?_⟩ | refine hK _ ?_
       clear hK K
       refine mix_pur2 rfl (fun K hK => ?_)
       go_simp
       first | refine ⟨_, fun _ => rfl, hK _ ?_⟩ | refine hK _ ?_
       clear hK K
       refine mix_load2 rfl rfl rfl (.slice (some ⟨g, 0, none⟩) n n) (fun w' h => by have h : (BS w.heap.size w x n b0 bo bc g (.slice a1 x.claims.length c1) S2) w' := h; have c0 := h.hO.cell 0; go_simp) rfl ?_
       refine mix_pur2 rfl (fun K hK => ?_)
       go_simp
       first | refine ⟨_, fun _ => rfl, hK _ ?_⟩ | refine hK _ ?_
       clear hK K
       refine mix_pur2 rfl (fun K hK => ?_)
       go_simp
       first | refine ⟨_, fun _ => rfl, hK _ ?_⟩ | refine hK _ ?_
       clear hK K
       refine mix_pur2 rfl (fun K hK => ?_)
       go_simp
       first | refine ⟨_, fun _ => rfl, hK _ ?_⟩ | refine hK _ ?_
       clear hK K
       refine mix_load2 rfl rfl rfl (.int .i64 (gl S2.1 p)) (fun w' h => by have h : (BS w.heap.size w x n b0 bo bc g (.slice a1 x.claims.length c1) S2) w' := h; have c0 := h.hE.cells q2; go_simp) rfl ?_
       refine mix_pur2 rfl (fun K hK => ?_)
       go_simp
       first | refine ⟨_, fun _ => rfl, hK _ ?_⟩ | refine hK _ ?_
       clear hK K
       refine mix_load2 rfl rfl rfl (.int .i64 x.bend) (fun w' h => by have h : (BS w.heap.size w x n b0 bo bc g (.slice a1 x.claims.length c1) S2) w' := h; have c0 := h.hX.cell 1; go_simp) rfl ?_
       refine mix_pur2 rfl (fun K hK => ?_)
       go_simp
       first | refine ⟨_, fun _ => rfl, hK _ ?_⟩ | refine hK _ ?_
       clear hK K
       refine mix_eff2 rfl true rfl (fun K hK => ?_)
       go_simp
       refine (hd2.lowC (p := p1) (by omega) (gl S2.1 p - x.bend)).mono ?_
       rintro e w3 ⟨rfl, hb3, -⟩
       refine hK _ _ trivial ?_
       clear hK K
       refine mix_done2 ?_
       obtain ⟨S3, hS3⟩ : ∃ S3, S3 = lowS S2 p1 (gl S2.1 p - x.bend) := ⟨_, rfl⟩
       rw [← hS3] at hb3
       have hs3 : Small S3.1 (M + 18) := by rw [hS3]; have := small_run (s := S2) (o := .lowv p1 p x.bend) hs2 (by omega) (by have := hb2.len; exact ⟨by omega, by omega⟩) (by have := hx.b; exact ⟨by omega, by omega⟩); rwa [show M + 18 = M + 9 + 9 by omega]
       have HS3 := Lib.hid hS3
       clear hS3 bk2 hd2
       have bk3 : IntKind.i64.wrap (gh S3.1 p1 + x.bend) = gh S3.1 p1 + x.bend := IntWalk.i64_in _ (by have := hs3 p1 (by rw [← hb3.len]; omega); have := hx.b; have := hM1; omega)
       have q3 : p1 < S3.1.length := by rw [← hb3.len]; omega
       go_wp2_with fail
       refine wp_region_mix2 (.pur 0 (.pur 1 (.one 2 (.pur 3 (.pur 4 (.pur 5 (.pur 6 (.one 7 (.pur 8 (.one 9 (.pur 10 (.act 11 .fin)))))))))))) 11 (BS w.heap.size w x n b0 bo bc g (.slice a1 x.claims.length c1) S3) (fun _ => True) (by kernel_rfl) (by kernel_rfl) rfl (by kernel_rfl) (hb3.qt ((Qt.refl _).drewN 1)) (fun wd3 hq3 _ => ?_)
       have hd3 := hb3.qt hq3
       refine mix_pur2 rfl (fun K hK => ?_)
       go_simp
       first | refine ⟨_, fun _ => rfl, hK _ ?_⟩ | refine hK _ ?_
       clear hK K
       refine mix_pur2 rfl (fun K hK => ?_)
       go_simp
       first | refine ⟨_, fun _ => rfl, hK _ ?_⟩ | refine hK _ ?_
       clear hK K
       refine mix_load2 rfl rfl rfl (.slice (some ⟨g, 0, none⟩) n n) (fun w' h => by have h : (BS w.heap.size w x n b0 bo bc g (.slice a1 x.claims.length c1) S3) w' := h; have c0 := h.hO.cell 0; go_simp) rfl ?_
       refine mix_pur2 rfl (fun K hK => ?_)
       go_simp
       first | refine ⟨_, fun _ => rfl, hK _ ?_⟩ | refine hK _ ?_
       clear hK K
       refine mix_pur2 rfl (fun K hK => ?_)
       go_simp
       first | refine ⟨_, fun _ => rfl, hK _ ?_⟩ | refine hK _ ?_
       clear hK K
       refine mix_pur2 rfl (fun K hK => ?_)
       go_simp
       first | refine ⟨_, fun _ => rfl, hK _ ?_⟩ | refine hK _ ?_
       clear hK K
       refine mix_pur2 rfl (fun K hK => ?_)
       go_simp
       first | refine ⟨_, fun _ => rfl, hK _ ?_⟩ | refine hK _ ?_
       clear hK K
       refine mix_load2 rfl rfl rfl (.int .i64 (gh S3.1 p1)) (fun w' h => by have h : (BS w.heap.size w x n b0 bo bc g (.slice a1 x.claims.length c1) S3) w' := h; have c0 := h.hE.cells q3; go_simp) rfl ?_
       refine mix_pur2 rfl (fun K hK => ?_)
       go_simp
       first | refine ⟨_, fun _ => rfl, hK _ ?_⟩ | refine hK _ ?_
       clear hK K
       refine mix_load2 rfl rfl rfl (.int .i64 x.bend) (fun w' h => by have h : (BS w.heap.size w x n b0 bo bc g (.slice a1 x.claims.length c1) S3) w' := h; have c0 := h.hX.cell 1; go_simp) rfl ?_
       refine mix_pur2 rfl (fun K hK => ?_)
       go_simp
       first | refine ⟨_, fun _ => rfl, hK _ ?_⟩ | refine hK _ ?_
       clear hK K
       refine mix_eff2 rfl true rfl (fun K hK => ?_)
       go_simp
       refine (hd3.highC (p := p) (by omega) (gh S3.1 p1 + x.bend)).mono ?_
       rintro e w4 ⟨rfl, hb4, -⟩
       refine hK _ _ trivial ?_
       clear hK K
       refine mix_done2 ?_
       obtain ⟨S4, hS4⟩ : ∃ S4, S4 = highS S3 p (gh S3.1 p1 + x.bend) := ⟨_, rfl⟩
       rw [← hS4] at hb4
       have hs4 : Small S4.1 (M + 27) := by rw [hS4]; have := small_run (s := S3) (o := .highv p p1 x.bend) hs3 (by omega) (by have := hb3.len; exact ⟨by omega, by omega⟩) (by have := hx.b; exact ⟨by omega, by omega⟩); rwa [show M + 27 = M + 18 + 9 by omega]
       have HS4 := Lib.hid hS4
       clear hS4 bk3 hd3
       have bk4 : IntKind.i64.wrap (gh S4.1 p + x.bend) = gh S4.1 p + x.bend := IntWalk.i64_in _ (by have := hs4 p (by rw [← hb4.len]; omega); have := hx.b; have := hM1; omega)
       have q4 : p < S4.1.length := by rw [← hb4.len]; omega
       go_wp2_with fail
       refine wp_region_mix2 (.pur 0 (.pur 1 (.pur 2 (.one 3 (.pur 4 (.pur 5 (.pur 6 (.one 7 (.pur 8 (.one 9 (.pur 10 (.act 11 .fin)))))))))))) 11 (BS w.heap.size w x n b0 bo bc g (.slice a1 x.claims.length c1) S4) (fun _ => True) (by kernel_rfl) (by kernel_rfl) rfl (by kernel_rfl) (hb4.qt ((Qt.refl _).drewN 1)) (fun wd4 hq4 _ => ?_)
       have hd4 := hb4.qt hq4
       refine mix_pur2 rfl (fun K hK => ?_)
       go_simp
       first | refine ⟨_, fun _ => rfl, hK _ ?_⟩ | refine hK _ ?_
       clear hK K
       refine mix_pur2 rfl (fun K hK => ?_)
       go_simp
       first | refine ⟨_, fun _ => rfl, hK _ ?_⟩ | refine hK _ ?_
       clear hK K
       refine mix_pur2 rfl (fun K hK => ?_)
       go_simp
       first | refine ⟨_, fun _ => rfl, hK _ ?_⟩ | refine hK _ ?_
       clear hK K
       refine mix_load2 rfl rfl rfl (.slice (some ⟨g, 0, none⟩) n n) (fun w' h => by have h : (BS w.heap.size w x n b0 bo bc g (.slice a1 x.claims.length c1) S4) w' := h; have c0 := h.hO.cell 0; go_simp) rfl ?_
       refine mix_pur2 rfl (fun K hK => ?_)
       go_simp
       first | refine ⟨_, fun _ => rfl, hK _ ?_⟩ | refine hK _ ?_
       clear hK K
       refine mix_pur2 rfl (fun K hK => ?_)
       go_simp
       first | refine ⟨_, fun _ => rfl, hK _ ?_⟩ | refine hK _ ?_
       clear hK K
       refine mix_pur2 rfl (fun K hK => ?_)
       go_simp
       first | refine ⟨_, fun _ => rfl, hK _ ?_⟩ | refine hK _ ?_
       clear hK K
       refine mix_load2 rfl rfl rfl (.int .i64 (gh S4.1 p)) (fun w' h => by have h : (BS w.heap.size w x n b0 bo bc g (.slice a1 x.claims.length c1) S4) w' := h; have c0 := h.hE.cells q4; go_simp) rfl ?_
       refine mix_pur2 rfl (fun K hK => ?_)
       go_simp
       first | refine ⟨_, fun _ => rfl, hK _ ?_⟩ | refine hK _ ?_
       clear hK K
       refine mix_load2 rfl rfl rfl (.int .i64 x.bend) (fun w' h => by have h : (BS w.heap.size w x n b0 bo bc g (.slice a1 x.claims.length c1) S4) w' := h; have c0 := h.hX.cell 1; go_simp) rfl ?_
       refine mix_pur2 rfl (fun K hK => ?_)
       go_simp
       first | refine ⟨_, fun _ => rfl, hK _ ?_⟩ | refine hK _ ?_
       clear hK K
       refine mix_eff2 rfl true rfl (fun K hK => ?_)
       go_simp
       refine (hd4.highC (p := p1) (by omega) (gh S4.1 p + x.bend)).mono ?_
       rintro e w5 ⟨rfl, hb5, -⟩
       refine hK _ _ trivial ?_
       clear hK K
       refine mix_done2 ?_
       obtain ⟨S5, hS5⟩ : ∃ S5, S5 = highS S4 p1 (gh S4.1 p + x.bend) := ⟨_, rfl⟩
       rw [← hS5] at hb5
       have hs5 : Small S5.1 (M + 36) := by rw [hS5]; have := small_run (s := S4) (o := .highv p1 p x.bend) hs4 (by omega) (by have := hb4.len; exact ⟨by omega, by omega⟩) (by have := hx.b; exact ⟨by omega, by omega⟩); rwa [show M + 36 = M + 27 + 9 by omega]
       have HS5 := Lib.hid hS5
       clear hS5 bk4 hd4
       go_wp2_with fail
       go_roundw
       case rel =>
         have e : 9 + 36 * ((p + 1 : Nat) : Int) = M + 36 := by rw [HM.out]; omega
         exact ⟨p + 1, S5, by omega, by go_num, Lib.hid (by rw [HS5.out, HS4.out, HS3.out, HS2.out, HS1.out, HP1.out, SB_succ]), hb5, by rw [e]; exact hs5⟩
       case measure => simp [intOf]; omega
     · obtain rfl : p = n - 1 := by omega
       clear hn0 hb0 hsm hlt hp
       obtain ⟨M, hM⟩ : ∃ M : Int, M = 9 + 36 * ((n - 1 : Nat) : Int) := ⟨_, rfl⟩
       rw [← hM] at hs1
       have hM0 : 9 ≤ M := by omega
       have hM1 : M ≤ 120 := by omega
       clear hM
       have c2 := hb1.hX.cell 2
       go_wp2_with fail
       clear c2
       rename World => wl
       go_loopw [83] (fun i wr => ∃ (k : Nat) (S : Bs × Bool), k ≤ x.claims.length ∧ i = .int .i64 k ∧ Hid (S = SC x S1 k) ∧ BS w.heap.size w x n b0 bo bc g (.slice a1 x.claims.length c1) S wr ∧ Small S.1 (M + 18 * (k : Int))) (fun i _ => x.claims.length - (intOf i).toNat)
       case atStart => exact ⟨0, S1, Nat.zero_le _, rfl, Lib.hid rfl, hb1, by simpa using hs1⟩
       case round =>
        obtain ⟨k, S, hk, rfl, HS, hb, hs⟩ := hrel
        clear hb1 hs1
        have h7 := hx.m
        by_cases hlt : k < x.claims.length
        · obtain ⟨c, hc⟩ : ∃ c, c = x.claims[k] := ⟨_, rfl⟩
          have hcok : c.Ok x.points := by rw [hc]; exact hx.c _ (List.getElem_mem _)
          have HOP := Lib.hid (show SC x S1 (k + 1) = (opsC c).foldl Op.run S by rw [SC_succ hlt, ← hc, HS.out])
          obtain ⟨gc, o, rfl, hA, hgc⟩ := cls_addr hb.cls (by omega)
          have hat := cls_at hb.cls k hlt
          rw [← hc] at hat
          obtain ⟨d0, d1, d2, d3, d4⟩ := hat
          clear hc
          have hk1 := hcok.k
          have hp1 := hcok.p
          have ho1 := hcok.o
          have ha1 := hcok.a
          have he1 := hcok.e
          rw [HN.out] at hp1 ho1
          obtain ⟨pt, hpt⟩ : ∃ pt : Nat, c.point = pt := ⟨c.point.toNat, by omega⟩
          have hptn : pt < n := by omega
          have hpto : c.point.toNat = pt := by omega
          have HOF : ∀ w, Calls Tryz.prog 33 #[.agg #[.int .i64 c.kind, .int .i64 (pt : Int), .int .i64 c.other, .int .i64 c.off, .int .i64 c.err]] w fun e w' => e = .returned (clV c) ∧ Below w.heap.size w w' := fun w => by have := ofCl_c c w; rw [hpt] at this; exact this
          rw [hpt] at d1
          clear hp1
          have hkk : c.kind = 1 ∨ c.kind = 2 ∨ c.kind = 3 ∨ c.kind = 4 ∨ c.kind = 5 := by omega
          rcases hkk with kk | kk | kk | kk | kk
          · have hops : opsC c = [.lowc pt c.off, .highc pt c.off] := by unfold opsC; rw [if_pos kk]; rw [hpto]
            have hco : 0 ≤ c.off ∧ c.off ≤ 9 := by rw [if_neg (by omega)] at ha1; exact ha1
            have K := Lib.hid kk
            clear kk hk1 ho1 ha1 he1
            have ta133 := ta133_133
            have hv : clV c = .iface 80 (.agg #[.int .i64 (pt : Int), .int .i64 c.off]) := by unfold clV; rw [if_pos K.out]; rw [hpt]
            go_wp2_with fail
            refine (HOF _).mono ?_
            rintro e w3 ⟨rfl, hB3⟩
            have hb3 := (hb.alloc _).call hB3
            have hgl := Blk.lt hb3.hE
            have hcl := hb3.hC.lt
            go_wp2_with fail
            refine ((hb3.alloc _).lowC (p := pt) hptn (c.off)).mono ?_
            rintro e w4 ⟨rfl, hb4, hK4⟩
            have hT := (Blk.new w3 #[.int .i64 (pt : Int), .int .i64 c.off] 80).keep (hK4.block w3.heap.size (by simp) (by omega))
            have e0 := hT.cell 0
            have e1 := hT.cell 1
            go_wp2_with fail
            refine (hb4.highC (p := pt) hptn (c.off)).mono ?_
            rintro e w5 ⟨rfl, hb5, -⟩
            go_wp2_with fail
            go_roundw
            case rel =>
              refine ⟨k + 1, (highS (lowS S pt (c.off)) pt (c.off)), by omega, by go_num, Lib.hid (by rw [HOP.out, hops]; rfl), hb5, ?_⟩
              have t1 := small_run (s := S) (o := .lowc pt c.off) hs (by omega) (by have := hb.len; show pt < _; omega) (by unfold Op.tame; omega)
              have t2 := small_run (s := lowS S pt (c.off)) (o := .highc pt c.off) t1 (by omega) (by rw [show (lowS S pt (c.off)).1.length = S.1.length from lowS_len]; have := hb.len; show pt < _; omega) (by unfold Op.tame; omega)
              have e : M + 18 * ((k + 1 : Nat) : Int) = M + 18 * (k : Int) + 9 + 9 := by omega
              rw [e]; exact t2
            case measure => simp [intOf]; omega
          · have hops : opsC c = [.lowc pt (c.off - c.err), .highc pt (c.off + c.err)] := by unfold opsC; rw [if_neg (by omega), if_pos kk]; rw [hpto]
            have hco : 0 ≤ c.off ∧ c.off ≤ 9 := by rw [if_neg (by omega)] at ha1; exact ha1
            have hce : 0 ≤ c.err ∧ c.err ≤ 9 := by rw [if_pos kk] at he1; exact he1
            have K := Lib.hid kk
            clear kk hk1 ho1 ha1 he1
            have ta133 := ta135_133
            have ta135 := ta135_135
            have hv : clV c = .iface 82 (.agg #[.int .i64 (pt : Int), .int .i64 c.off, .int .i64 c.err]) := by unfold clV; rw [if_neg (by have := K.out; omega), if_pos K.out]; rw [hpt]
            go_wp2_with fail
            refine (HOF _).mono ?_
            rintro e w3 ⟨rfl, hB3⟩
            have hb3 := (hb.alloc _).call hB3
            have hgl := Blk.lt hb3.hE
            have hcl := hb3.hC.lt
            go_wp2_with fail
            refine ((hb3.alloc _).lowC (p := pt) hptn (c.off - c.err)).mono ?_
            rintro e w4 ⟨rfl, hb4, hK4⟩
            have hT := (Blk.new w3 #[.int .i64 (pt : Int), .int .i64 c.off, .int .i64 c.err] 82).keep (hK4.block w3.heap.size (by simp) (by omega))
            have e0 := hT.cell 0
            have e1 := hT.cell 1
            have e2 := hT.cell 2
            go_wp2_with fail
            refine (hb4.highC (p := pt) hptn (c.off + c.err)).mono ?_
            rintro e w5 ⟨rfl, hb5, -⟩
            go_wp2_with fail
            go_roundw
            case rel =>
              refine ⟨k + 1, (highS (lowS S pt (c.off - c.err)) pt (c.off + c.err)), by omega, by go_num, Lib.hid (by rw [HOP.out, hops]; rfl), hb5, ?_⟩
              have t1 := small_run (s := S) (o := .lowc pt (c.off - c.err)) hs (by omega) (by have := hb.len; show pt < _; omega) (by unfold Op.tame; omega)
              have t2 := small_run (s := lowS S pt (c.off - c.err)) (o := .highc pt (c.off + c.err)) t1 (by omega) (by rw [show (lowS S pt (c.off - c.err)).1.length = S.1.length from lowS_len]; have := hb.len; show pt < _; omega) (by unfold Op.tame; omega)
              have e : M + 18 * ((k + 1 : Nat) : Int) = M + 18 * (k : Int) + 9 + 9 := by omega
              rw [e]; exact t2
            case measure => simp [intOf]; omega
          · have hops : opsC c = [.highc pt c.off] := by unfold opsC; rw [if_neg (by omega), if_neg (by omega), if_pos kk]; rw [hpto]
            have hco : 0 ≤ c.off ∧ c.off ≤ 9 := by rw [if_neg (by omega)] at ha1; exact ha1
            have K := Lib.hid kk
            clear kk hk1 ho1 ha1 he1
            have ta133 := ta136_133
            have ta135 := ta136_135
            have ta136 := ta136_136
            have hv : clV c = .iface 83 (.agg #[.int .i64 (pt : Int), .int .i64 c.off]) := by unfold clV; rw [if_neg (by have := K.out; omega), if_neg (by have := K.out; omega), if_pos K.out]; rw [hpt]
            go_wp2_with fail
            refine (HOF _).mono ?_
            rintro e w3 ⟨rfl, hB3⟩
            have hb3 := (hb.alloc _).call hB3
            have hgl := Blk.lt hb3.hE
            have hcl := hb3.hC.lt
            go_wp2_with fail
            refine ((hb3.alloc _).highC (p := pt) hptn (c.off)).mono ?_
            rintro e w4 ⟨rfl, hb4, -⟩
            go_wp2_with fail
            go_roundw
            case rel =>
              refine ⟨k + 1, (highS S pt (c.off)), by omega, by go_num, Lib.hid (by rw [HOP.out, hops]; rfl), hb4, ?_⟩
              have t1 := small_run (s := S) (o := .highc pt c.off) hs (by omega) (by have := hb.len; show pt < _; omega) (by unfold Op.tame; omega)
              exact small_mono t1 (by omega)
            case measure => simp [intOf]; omega
          · have hops : opsC c = [.lowc pt c.off] := by unfold opsC; rw [if_neg (by omega), if_neg (by omega), if_neg (by omega), if_pos kk]; rw [hpto]
            have hco : 0 ≤ c.off ∧ c.off ≤ 9 := by rw [if_neg (by omega)] at ha1; exact ha1
            have K := Lib.hid kk
            clear kk hk1 ho1 ha1 he1
            have ta133 := ta137_133
            have ta135 := ta137_135
            have ta136 := ta137_136
            have ta137 := ta137_137
            have hv : clV c = .iface 84 (.agg #[.int .i64 (pt : Int), .int .i64 c.off]) := by unfold clV; rw [if_neg (by have := K.out; omega), if_neg (by have := K.out; omega), if_neg (by have := K.out; omega), if_pos K.out]; rw [hpt]
            go_wp2_with fail
            refine (HOF _).mono ?_
            rintro e w3 ⟨rfl, hB3⟩
            have hb3 := (hb.alloc _).call hB3
            have hgl := Blk.lt hb3.hE
            have hcl := hb3.hC.lt
            go_wp2_with fail
            refine ((hb3.alloc _).lowC (p := pt) hptn (c.off)).mono ?_
            rintro e w4 ⟨rfl, hb4, -⟩
            go_wp2_with fail
            go_roundw
            case rel =>
              refine ⟨k + 1, (lowS S pt (c.off)), by omega, by go_num, Lib.hid (by rw [HOP.out, hops]; rfl), hb4, ?_⟩
              have t1 := small_run (s := S) (o := .lowc pt c.off) hs (by omega) (by have := hb.len; show pt < _; omega) (by unfold Op.tame; omega)
              exact small_mono t1 (by omega)
            case measure => simp [intOf]; omega
          · rw [if_pos kk] at ho1
            obtain ⟨qt, hqt⟩ : ∃ qt : Nat, c.other = qt := ⟨c.other.toNat, by omega⟩
            have hqtn : qt < n := by omega
            have hqto : c.other.toNat = qt := by omega
            have hops : opsC c = [.highv pt qt c.off, .lowv qt pt c.off] := by unfold opsC; rw [if_neg (by omega), if_neg (by omega), if_neg (by omega), if_neg (by omega)]; rw [hpto, hqto]
            have hco : -9 ≤ c.off ∧ c.off ≤ 9 := by rw [if_pos kk] at ha1; exact ha1
            rw [hqt] at d2 HOF
            have K := Lib.hid kk
            clear kk hk1 ho1 ha1 he1
            have ta133 := ta139_133
            have ta135 := ta139_135
            have ta136 := ta139_136
            have ta137 := ta139_137
            have ta139 := ta139_139
            have hv : clV c = .iface 86 (.agg #[.int .i64 (pt : Int), .int .i64 (qt : Int), .int .i64 c.off]) := by unfold clV; rw [if_neg (by have := K.out; omega), if_neg (by have := K.out; omega), if_neg (by have := K.out; omega), if_neg (by have := K.out; omega)]; rw [hpt, hqt]
            go_wp2_with fail
            refine (HOF _).mono ?_
            rintro e w3 ⟨rfl, hB3⟩
            have hb3 := (hb.alloc _).call hB3
            have hgl := Blk.lt hb3.hE
            have hcl := hb3.hC.lt
            obtain ⟨w4, hw4⟩ : ∃ w4, w4 = w3.alloc (.cells #[.int .i64 (pt : Int), .int .i64 (qt : Int), .int .i64 c.off] 86) := ⟨_, rfl⟩
            obtain ⟨b5, hb5e⟩ : ∃ b5, b5 = w3.heap.size := ⟨_, rfl⟩
            have hT4 : Blk b5 #[.int .i64 (pt : Int), .int .i64 (qt : Int), .int .i64 c.off] 86 w4 := by rw [hw4, hb5e]; exact Blk.new _ _ _
            have hb4 : BS w.heap.size w x n b0 bo bc g (.slice (some ⟨gc, o, none⟩) x.claims.length c1) S w4 := by rw [hw4]; exact hb3.alloc _
            go_upto_region 34 with fail
            rw [← hw4, ← hb5e]
            have hb5n : b5 ≠ g ∧ b5 ≠ bc := by omega
            clear hw4 hb5e hgl hcl hB3 hb3 hb
            have q1 : qt < S.1.length := by rw [← hb4.len]; exact hqtn
            have bk1 : IntKind.i64.wrap (gh S.1 qt + c.off) = gh S.1 qt + c.off := IntWalk.i64_in _ (by have := hs qt q1; omega)
            refine wp_region_mix2 (.pur 0 (.pur 1 (.one 2 (.one 3 (.pur 4 (.one 5 (.pur 6 (.pur 7 (.one 8 (.pur 9 (.one 10 (.pur 11 (.act 12 .fin))))))))))))) 12 (fun w' => BS w.heap.size w x n b0 bo bc g (.slice (some ⟨gc, o, none⟩) x.claims.length c1) S w' ∧ Blk b5 #[.int .i64 (pt : Int), .int .i64 (qt : Int), .int .i64 c.off] 86 w') (fun _ => True) (by kernel_rfl) (by kernel_rfl) rfl (by kernel_rfl) ⟨hb4.qt ((Qt.refl _).drewN 1), hT4.call (((Qt.refl _).drewN 1).below _)⟩ (fun wd1 hq1 _ => ?_)
            have hd1 := And.intro (hb4.qt hq1) (hT4.call (hq1.below _))
            refine mix_pur2 rfl (fun K hK => ?_)
            go_simp
            first | refine ⟨_, fun _ => rfl, hK _ ?_⟩ | refine hK _ ?_
            clear hK K
            refine mix_pur2 rfl (fun K hK => ?_)
            go_simp
            first | refine ⟨_, fun _ => rfl, hK _ ?_⟩ | refine hK _ ?_
            clear hK K
            refine mix_load2 rfl rfl rfl (.int .i64 (pt : Int)) (fun w' h => by have h : (fun w' => BS w.heap.size w x n b0 bo bc g (.slice (some ⟨gc, o, none⟩) x.claims.length c1) S w' ∧ Blk b5 #[.int .i64 (pt : Int), .int .i64 (qt : Int), .int .i64 c.off] 86 w') w' := h; have c0 := h.2.cell 0; go_simp) rfl ?_
            refine mix_load2 rfl rfl rfl (.slice (some ⟨g, 0, none⟩) n n) (fun w' h => by have h : (fun w' => BS w.heap.size w x n b0 bo bc g (.slice (some ⟨gc, o, none⟩) x.claims.length c1) S w' ∧ Blk b5 #[.int .i64 (pt : Int), .int .i64 (qt : Int), .int .i64 c.off] 86 w') w' := h; have c0 := h.1.hO.cell 0; go_simp) rfl ?_
            refine mix_pur2 rfl (fun K hK => ?_)
            go_simp
            first | refine ⟨_, fun _ => rfl, hK _ ?_⟩ | refine hK _ ?_
            clear hK K
            refine mix_load2 rfl rfl rfl (.int .i64 (qt : Int)) (fun w' h => by have h : (fun w' => BS w.heap.size w x n b0 bo bc g (.slice (some ⟨gc, o, none⟩) x.claims.length c1) S w' ∧ Blk b5 #[.int .i64 (pt : Int), .int .i64 (qt : Int), .int .i64 c.off] 86 w') w' := h; have c0 := h.2.cell 1; go_simp) rfl ?_
            refine mix_pur2 rfl (fun K hK => ?_)
            go_simp
            first | refine ⟨_, fun _ => rfl, hK _ ?_⟩ | refine hK _ ?_
            clear hK K
            refine mix_pur2 rfl (fun K hK => ?_)
            go_simp
            first | refine ⟨_, fun _ => rfl, hK _ ?_⟩ | refine hK _ ?_
            clear hK K
            refine mix_load2 rfl rfl rfl (.int .i64 (gh S.1 qt)) (fun w' h => by have h : (fun w' => BS w.heap.size w x n b0 bo bc g (.slice (some ⟨gc, o, none⟩) x.claims.length c1) S w' ∧ Blk b5 #[.int .i64 (pt : Int), .int .i64 (qt : Int), .int .i64 c.off] 86 w') w' := h; have c0 := h.1.hE.cells q1; go_simp) rfl ?_
            refine mix_pur2 rfl (fun K hK => ?_)
            go_simp
            first | refine ⟨_, fun _ => rfl, hK _ ?_⟩ | refine hK _ ?_
            clear hK K
            refine mix_load2 rfl rfl rfl (.int .i64 c.off) (fun w' h => by have h : (fun w' => BS w.heap.size w x n b0 bo bc g (.slice (some ⟨gc, o, none⟩) x.claims.length c1) S w' ∧ Blk b5 #[.int .i64 (pt : Int), .int .i64 (qt : Int), .int .i64 c.off] 86 w') w' := h; have c0 := h.2.cell 2; go_simp) rfl ?_
            refine mix_pur2 rfl (fun K hK => ?_)
            go_simp
            first | refine ⟨_, fun _ => rfl, hK _ ?_⟩ | refine hK _ ?_
            clear hK K
            refine mix_eff2 rfl true rfl (fun K hK => ?_)
            go_simp
            refine (hd1.1.highC (p := pt) hptn (gh S.1 qt + c.off)).mono ?_
            rintro e w5 ⟨rfl, hb5, hK5⟩
            have hT5 := hd1.2.keep (hK5.block _ hd1.2.lt (by omega))
            refine hK _ _ trivial ?_
            clear hK K
            refine mix_done2 ?_
            obtain ⟨S5, hS5⟩ : ∃ S5, S5 = highS S pt (gh S.1 qt + c.off) := ⟨_, rfl⟩
            rw [← hS5] at hb5
            have hs5 : Small S5.1 (M + 18 * (k : Int) + 9) := by rw [hS5]; exact small_run (s := S) (o := .highv pt qt c.off) hs (by omega) (by have := hb4.len; exact ⟨by omega, by omega⟩) (by unfold Op.tame; omega)
            have HS5 := Lib.hid hS5
            clear hS5 bk1 hd1 hb4 hT4
            have q2 : pt < S5.1.length := by rw [← hb5.len]; exact hptn
            have bk2 : IntKind.i64.wrap (gl S5.1 pt - c.off) = gl S5.1 pt - c.off := IntWalk.i64_in _ (by have := hs5 pt q2; omega)
            go_wp2_with fail
            refine wp_region_mix2 (.pur 0 (.pur 1 (.one 2 (.one 3 (.pur 4 (.one 5 (.pur 6 (.pur 7 (.one 8 (.pur 9 (.one 10 (.pur 11 (.act 12 .fin))))))))))))) 12 (fun w' => BS w.heap.size w x n b0 bo bc g (.slice (some ⟨gc, o, none⟩) x.claims.length c1) S5 w' ∧ Blk b5 #[.int .i64 (pt : Int), .int .i64 (qt : Int), .int .i64 c.off] 86 w') (fun _ => True) (by kernel_rfl) (by kernel_rfl) rfl (by kernel_rfl) ⟨hb5.qt ((Qt.refl _).drewN 1), hT5.call (((Qt.refl _).drewN 1).below _)⟩ (fun wd2 hq2 _ => ?_)
            have hd2 := And.intro (hb5.qt hq2) (hT5.call (hq2.below _))
            refine mix_pur2 rfl (fun K hK => ?_)
            go_simp
            first | refine ⟨_, fun _ => rfl, hK _ ?_⟩ | refine hK _ ?_
            clear hK K
            refine mix_pur2 rfl (fun K hK => ?_)
            go_simp
            first | refine ⟨_, fun _ => rfl, hK _ ?_⟩ | refine hK _ ?_
            clear hK K
            refine mix_load2 rfl rfl rfl (.int .i64 (qt : Int)) (fun w' h => by have h : (fun w' => BS w.heap.size w x n b0 bo bc g (.slice (some ⟨gc, o, none⟩) x.claims.length c1) S5 w' ∧ Blk b5 #[.int .i64 (pt : Int), .int .i64 (qt : Int), .int .i64 c.off] 86 w') w' := h; have c0 := h.2.cell 1; go_simp) rfl ?_
            refine mix_load2 rfl rfl rfl (.slice (some ⟨g, 0, none⟩) n n) (fun w' h => by have h : (fun w' => BS w.heap.size w x n b0 bo bc g (.slice (some ⟨gc, o, none⟩) x.claims.length c1) S5 w' ∧ Blk b5 #[.int .i64 (pt : Int), .int .i64 (qt : Int), .int .i64 c.off] 86 w') w' := h; have c0 := h.1.hO.cell 0; go_simp) rfl ?_
            refine mix_pur2 rfl (fun K hK => ?_)
            go_simp
            first | refine ⟨_, fun _ => rfl, hK _ ?_⟩ | refine hK _ ?_
            clear hK K
            refine mix_load2 rfl rfl rfl (.int .i64 (pt : Int)) (fun w' h => by have h : (fun w' => BS w.heap.size w x n b0 bo bc g (.slice (some ⟨gc, o, none⟩) x.claims.length c1) S5 w' ∧ Blk b5 #[.int .i64 (pt : Int), .int .i64 (qt : Int), .int .i64 c.off] 86 w') w' := h; have c0 := h.2.cell 0; go_simp) rfl ?_
            refine mix_pur2 rfl (fun K hK => ?_)
            go_simp
            first | refine ⟨_, fun _ => rfl, hK _ ?_⟩ | refine hK _ ?_
            clear hK K
            refine mix_pur2 rfl (fun K hK => ?_)
            go_simp
            first | refine ⟨_, fun _ => rfl, hK _ ?_⟩ | refine hK _ ?_
            clear hK K
            refine mix_load2 rfl rfl rfl (.int .i64 (gl S5.1 pt)) (fun w' h => by have h : (fun w' => BS w.heap.size w x n b0 bo bc g (.slice (some ⟨gc, o, none⟩) x.claims.length c1) S5 w' ∧ Blk b5 #[.int .i64 (pt : Int), .int .i64 (qt : Int), .int .i64 c.off] 86 w') w' := h; have c0 := h.1.hE.cells q2; go_simp) rfl ?_
            refine mix_pur2 rfl (fun K hK => ?_)
            go_simp
            first | refine ⟨_, fun _ => rfl, hK _ ?_⟩ | refine hK _ ?_
            clear hK K
            refine mix_load2 rfl rfl rfl (.int .i64 c.off) (fun w' h => by have h : (fun w' => BS w.heap.size w x n b0 bo bc g (.slice (some ⟨gc, o, none⟩) x.claims.length c1) S5 w' ∧ Blk b5 #[.int .i64 (pt : Int), .int .i64 (qt : Int), .int .i64 c.off] 86 w') w' := h; have c0 := h.2.cell 2; go_simp) rfl ?_
            refine mix_pur2 rfl (fun K hK => ?_)
            go_simp
            first | refine ⟨_, fun _ => rfl, hK _ ?_⟩ | refine hK _ ?_
            clear hK K
            refine mix_eff2 rfl true rfl (fun K hK => ?_)
            go_simp
            refine (hd2.1.lowC (p := qt) hqtn (gl S5.1 pt - c.off)).mono ?_
            rintro e w6 ⟨rfl, hb6, -⟩
            refine hK _ _ trivial ?_
            clear hK K
            refine mix_done2 ?_
            have hs6 := small_run (s := S5) (o := .lowv qt pt c.off) hs5 (by omega) (by have := hb5.len; exact ⟨by omega, by omega⟩) (by unfold Op.tame; omega)
            go_wp2_with fail
            go_roundw
            case rel =>
              refine ⟨k + 1, _, by omega, by go_num, Lib.hid (by rw [HOP.out, hops]; have e5 : Op.run S (.highv pt qt c.off) = S5 := HS5.out.symm; exact (congrArg (fun z => Op.run z (.lowv qt pt c.off)) e5).symm), hb6, ?_⟩
              have e : M + 18 * ((k + 1 : Nat) : Int) = M + 18 * (k : Int) + 9 + 9 := by omega
              rw [e]; exact hs6
            case measure => simp [intOf]; omega
        · obtain rfl : k = x.claims.length := by omega
          have hpf : S = passF x s := by rw [HS.out, HS1.out, ← HX.out, SC_all]
          have hPn := hP.next hx
          rw [← hpf] at hPn
          have HPF := Lib.hid hpf
          clear hpf hs HS HS1 hlt
          have c0 := hb.hO.cell 0
          go_wp2_with fail
          clear c0
          go_loopw [175] (fun i wr => ∃ (k : Nat), k ≤ n ∧ i = .int .i64 k ∧ BS w.heap.size w x n b0 bo bc g (.slice a1 x.claims.length c1) S wr ∧ ∀ q < k, gl S.1 q ≤ gh S.1 q) (fun i _ => n - (intOf i).toNat)
          case atStart => exact ⟨0, Nat.zero_le _, rfl, hb, fun q hq => by omega⟩
          case round =>
            rename World => wr2
            obtain ⟨k, hk, rfl, hb2, hall⟩ := hrel
            clear hb
            by_cases hlt : k < n
            · have hkl : k < S.1.length := by rw [← hb2.len]; exact hlt
              obtain ⟨e0, e1⟩ := hb2.hE.cells hkl
              by_cases hgt : gh S.1 k < gl S.1 k
              · go_wp2_with fail
                refine ⟨rfl, _, results_tmp2 rfl _ _ _, ?_⟩
                exact ⟨_, false, rfl, (hb2.alloc _).bel, .inl ⟨rfl, rfl, bndF_none.2 (hPn.none (by rw [HX.out]; exact hlt) hgt)⟩⟩
              · go_wp2_with fail
                go_roundw
                case rel =>
                  refine ⟨k + 1, by omega, by go_num, hb2.alloc _, fun q hq => ?_⟩
                  by_cases e : q = k
                  · subst e; omega
                  · exact hall q (by omega)
                case measure => simp [intOf]; omega
            · obtain rfl : k = n := by omega
              have hlen : ∀ p < x.n, gl S.1 p ≤ gh S.1 p := fun p hp => hall p (by rw [HX.out] at hp; exact hp)
              have c0 := hb2.hO.cell 0
              have c1' := hb2.hC.cell 0
              cases hch : S.2 with
              | true =>
                rw [hch] at c1'
                go_wp2_with fail
                refine wp_goto ⟨rfl, ⟨b0, bo, bc, g, S.1, S.2, hb2, hPn, hlen, by (repeat apply Exists.intro); rfl⟩, ?_⟩
                rw [muA_eq hb2 rfl, muA_eq hbs rfl]
                have h1 := hP.less hx (by rw [← HPF.out]; exact hch)
                rw [← HPF.out] at h1
                have h2 := mu_nonneg (s := S.1) fun p hp => hlen p (by rw [HX.out, hb2.len]; exact hp)
                show (mu S.1).toNat < (mu s).toNat
                omega
              | false =>
                rw [hch] at c1'
                go_wp2_with fail
                refine ⟨rfl, _, results_tmp2 rfl _ _ _, ?_⟩
                obtain ⟨q1, q2⟩ := hP.done hx (by rw [← HPF.out]; exact hch) (by rw [← HPF.out]; exact hlen)
                rw [← HPF.out] at q1
                exact ⟨_, true, rfl, hb2.bel, .inr ⟨rfl, S.1, g, by rw [q1]; exact q2, by rw [HX.out]; rfl, hb2.low.2.2.2, hb2.hE⟩⟩

theorem bounds_c {A : Nat → Prop} {w : World} {x : Edg} {v : Value} (h : ClsM A w v x.claims) (hx : x.Ok) :
    Calls Tryz.prog 44 #[.agg #[.int .i64 x.points, .int .i64 x.bend, v]] w fun e w' => ∃ v' b, e = .returned (.tuple #[v', .bool b]) ∧ Below w.heap.size w w' ∧ ((b = false ∧ bndF x = none) ∨ (b = true ∧ ∃ s g, IsBnd x s ∧ v' = .slice (some ⟨g, 0, none⟩) x.n x.n ∧ w.heap.size ≤ g ∧ EB g s w')) :=
  (bounds_z h hx).mono fun _ _ ⟨v', b, h1, h2, h3⟩ => ⟨v', b, h1, h2, h3.imp (fun h => ⟨h.1, h.2.2⟩) id⟩

end Go.Proofs.YtbpfhoihfoojfaaGreatDoor

