/- Contracts of bits.Mul and slices.Repeat (edge), and a law of copy for elements of several cells; conditions: one pair of ends, repeated at most four times. -/
import Derived.Test.YtgdifckmjdjcpaaChk3
import Derived.Laws.IdiomCopy
namespace Go.Proofs.Ytgdifckmjdjcpaa
open Go.RowKit

theorem mul64_c {n : Nat} (hn : n ≤ 4) (w : World) : Calls Try.prog 129 #[.int .u64 1, .int .u64 n] w fun e w' => e = .returned (.tuple #[.int .u64 0, .int .u64 n]) ∧ w = w' := by
  rcases n with _ | _ | _ | _ | _ | n
  all_goals first
    | omega
    | (go_enter Try.func129, Try.ntmps129
       go_wp2
       go_ret2
       exact ⟨by kernel_rfl, rfl⟩)

theorem mul_c {n : Nat} (hn : n ≤ 4) (w : World) : Calls Try.prog 121 #[.int .u64 1, .int .u64 n] w fun e w' => e = .returned (.tuple #[.int .u64 0, .int .u64 n]) ∧ w = w' := by
  go_enter Try.func121, Try.ntmps121
  go_wp2_with (go_at_call 129; refine (mul64_c hn _).mono ?_; rintro e w' ⟨rfl, rfl⟩)
  go_ret2
  exact ⟨rfl, rfl⟩

theorem Try.info99 : (Try.prog.info? 99).map (fun i => (i.zero, i.size, i.bytes)) = some (some (.agg #[.int .i64 0, .int .i64 0]), 2, 16) := by kernel_rfl

section
variable {P : Program} {w : World}
/-- 'copy' of elements of several cells: all is read before anything is written. -/
theorem run_copy_sz (dT sT ty elem : TypeId) (b o dLen dCap : Nat) (a : Addr) (sLen sCap sz : Nat) (cs : List Value)
    (hu : P.underlying dT = some (.slice elem)) (hs : (P.info? elem).map (·.size) = some sz) (hn : cs.length = Nat.min sLen dLen * sz)
    (hsrc : ∀ j v, cs[j]? = some v → w.cell? (a.add j) = some v) (hc : ∀ j, j < cs.length → (w.cell? ⟨b, o + j, none⟩).isSome = true) (hf : ∀ j, j < cs.length → w.frozen? ⟨b, o + j, none⟩ = false) (h1 : ∀ v ∈ cs, v.oneCell' = true) :
    (Builtin.copy_ #[dT, sT] ty #[.slice (some ⟨b, o, none⟩) dLen dCap, .slice (some a) sLen sCap]).run P w = .ok (goInt (Nat.min sLen dLen)) (w.setCells b o cs) := by
  have hl := run_loadCells_list (P := P) w a cs hsrc
  have hst := run_storeCells_cells (P := P) b o cs 0 w (by simpa using hc) (by simpa using hf) h1
  cases hq : P.info? elem with
  | none => simp [hq] at hs
  | some i =>
    have hi : i.size = sz := by simpa [hq] using hs
    simp [Builtin.copy_, run_underlying hu, Builtin.lenOf, Builtin.firstCells, sizeOf, typeInfo, hq, hi, ← hn, hl, hst]

theorem wp_copy_sz {o : Oper} {a : Act} {K : Act → World → Prop} {Q : Exit → Act → World → Prop} (d s : Operand) (dT sT : TypeId)
    (ho : o.op = .call { callee := .builtin .copy, args := #[d, s], argTypes := #[dT, sT] }) (elem : TypeId) (sz : Nat) (hu : P.underlying dT = some (.slice elem)) (hs : (P.info? elem).map (·.size) = some sz)
    {b off dLen dCap sLen sCap : Nat} {ad : Addr} (hd : a.eval d = .slice (some ⟨b, off, none⟩) dLen dCap) (hx : a.eval s = .slice (some ad) sLen sCap) (cs : List Value) (hn : cs.length = Nat.min sLen dLen * sz)
    (hsrc : ∀ j v, cs[j]? = some v → w.cell? (ad.add j) = some v) (hc : ∀ j, j < cs.length → (w.cell? ⟨b, off + j, none⟩).isSome = true) (hf : ∀ j, j < cs.length → w.frozen? ⟨b, off + j, none⟩ = false) (h1 : ∀ v ∈ cs, v.oneCell' = true)
    (h : K (a.put o.dst (goInt (Nat.min sLen dLen))) (w.setCells b off cs)) : o.wp P a w K Q := by
  have hr := run_copy_sz (P := P) (w := w) dT sT o.type elem b off dLen dCap ad sLen sCap sz cs hu hs hn hsrc hc hf h1
  unfold Oper.wp execOp
  simp only [ho, resolve, invoke, builtin, Sem.run_bind, Sem.run_pure, Result.andThen_ok, List.map_toArray, List.map_cons, List.map_nil, hd, hx, hr]
  exact h
end

/-- A block, turned in a stretch. -/
theorem Blk.setCells {b : Nat} {t : TypeId} : ∀ {q' q p r : List Value} {w : World}, Blk b (p ++ (q ++ r)).toArray t w → q.length = q'.length → Blk b (p ++ (q' ++ r)).toArray t (w.setCells b p.length q')
  | [], q, p, r, w, h, hl => by
    obtain rfl : q = [] := List.eq_nil_of_length_eq_zero hl
    exact h
  | x :: q', [], _, _, _, _, hl => by simp at hl
  | x :: q', y :: q, p, r, w, h, hl => by
    have h1 := h.set p.length x
    have e : ((p ++ (y :: q ++ r)).toArray.setIfInBounds p.length x) = ((p ++ [x]) ++ (q ++ r)).toArray := by
      simp [List.set_append_right]
    rw [e] at h1
    have h2 := Blk.setCells (q' := q') (q := q) (p := p ++ [x]) (r := r) h1 (by simpa using hl)
    have e2 : p ++ (x :: q' ++ r) = (p ++ [x]) ++ (q' ++ r) := by simp
    rw [e2, World.setCells]
    rw [List.length_append, List.length_singleton] at h2
    exact h2
theorem below_setCells {B b : Nat} {w0 : World} (hb : B ≤ b) : ∀ {cs : List Value} {o : Nat} {w : World}, Below B w0 w → Below B w0 (w.setCells b o cs)
  | [], _, _, h => h
  | x :: cs, o, _, h => below_setCells hb (cs := cs) (o := o + 1) (h.setCell (p := ⟨b, o, none⟩) hb x)

/-- Ends repeated. -/
theorem step_copy_sz {P : Program} {ops : Array Oper} {o : Oper} {a : Act} {w : World} {K : Act → World → Prop} {Q : Exit → Act → World → Prop} {E : Prop} (hgd : o.guard = none) (d s : Operand) (dT sT : TypeId)
    (ho : o.op = .call { callee := .builtin .copy, args := #[d, s], argTypes := #[dT, sT] }) (elem : TypeId) (sz : Nat) (hu : P.underlying dT = some (.slice elem)) (hs : (P.info? elem).map (·.size) = some sz)
    {b off dLen dCap sLen sCap : Nat} {ad : Addr} (hd : a.eval d = .slice (some ⟨b, off, none⟩) dLen dCap) (hx : a.eval s = .slice (some ad) sLen sCap) (cs : List Value) (hn : cs.length = Nat.min sLen dLen * sz)
    (hsrc : ∀ j v, cs[j]? = some v → w.cell? (ad.add j) = some v) (hc : ∀ j, j < cs.length → (w.cell? ⟨b, off + j, none⟩).isSome = true) (hf : ∀ j, j < cs.length → w.frozen? ⟨b, off + j, none⟩ = false) (h1 : ∀ v ∈ cs, v.oneCell' = true)
    (h : K (a.put o.dst (goInt (Nat.min sLen dLen))) (w.setCells b off cs)) : if Region.wanted o (yielded ops a.tmps) = true then Oper.wp P o a w K Q else E := by
  rw [if_pos (by simp [Region.wanted, hgd])]
  exact wp_copy_sz d s dT sT ho elem sz hu hs hd hx cs hn hsrc hc hf h1 h

theorem Try.size99 : (Try.prog.info? 99).map (·.size) = some 2 := by kernel_rfl
def zc : List Value := [.int .i64 0, .int .i64 0]
def repC (m n : Nat) : List Value := (List.replicate m ((0 : Int), (9 : Int))).flatMap rcells ++ (List.replicate (n - m) ((0 : Int), (0 : Int))).flatMap rcells
theorem rep_len (m : Nat) (z : Int × Int) : ((List.replicate m z).flatMap rcells).length = m * 2 := by rw [flat_len rcells_len, List.length_replicate]
theorem repC_len {m n : Nat} (h : m ≤ n) : (repC m n).length = n * 2 := by rw [repC, List.length_append, rep_len, rep_len]; omega
theorem repC_next (m k n : Nat) (h : m + k ≤ n) : repC m n = (List.replicate m ((0 : Int), (9 : Int))).flatMap rcells ++ ((List.replicate k ((0 : Int), (0 : Int))).flatMap rcells ++ (List.replicate (n - (m + k)) ((0 : Int), (0 : Int))).flatMap rcells) := by
  rw [repC, ← List.flatMap_append (xs := List.replicate k _), List.replicate_append_replicate, show k + (n - (m + k)) = n - m by omega]
theorem repC_next' (m k n : Nat) : (List.replicate m ((0 : Int), (9 : Int))).flatMap rcells ++ ((List.replicate k ((0 : Int), (9 : Int))).flatMap rcells ++ (List.replicate (n - (m + k)) ((0 : Int), (0 : Int))).flatMap rcells) = repC (m + k) n := by
  rw [← List.append_assoc, ← List.flatMap_append, List.replicate_append_replicate]; rfl
theorem rep_pre {m k n : Nat} (hk : k ≤ m) {j : Nat} {v : Value} : ((List.replicate k ((0 : Int), (9 : Int))).flatMap rcells)[j]? = some v ↔ j < k * 2 ∧ (repC m n)[j]? = some v := by
  have e : repC m n = (List.replicate k ((0 : Int), (9 : Int))).flatMap rcells ++ ((List.replicate (m - k) ((0 : Int), (9 : Int))).flatMap rcells ++ (List.replicate (n - m) ((0 : Int), (0 : Int))).flatMap rcells) := by
    rw [repC, ← List.append_assoc]
    congr 1
    rw [← List.flatMap_append, List.replicate_append_replicate, show k + (m - k) = m by omega]
  rw [e]
  constructor
  · intro h
    have hl := (List.getElem?_eq_some_iff.1 h).1
    rw [List.getElem?_append_left hl]
    rw [rep_len] at hl
    exact ⟨hl, h⟩
  · rintro ⟨h, h2⟩
    rwa [List.getElem?_append_left (by rw [rep_len]; exact h)] at h2
theorem rcells_one (r : Int × Int) : ∀ u ∈ rcells r, u.oneCell' = true := by
  intro u hu
  simp only [rcells, List.mem_cons, List.not_mem_nil, or_false] at hu
  rcases hu with rfl | rfl <;> rfl
theorem cells_one {α : Type} {f : α → List Value} (hf : ∀ a, ∀ u ∈ f a, u.oneCell' = true) (l : List α) : ∀ u ∈ l.flatMap f, u.oneCell' = true := by
  intro u hu
  obtain ⟨a, _, h⟩ := List.mem_flatMap.1 hu
  exact hf a u h
theorem run_make_ends (n : Nat) (hn : n ≤ 1000000) (w : World) :
    (Instr.makeSlice 95 (.int .i64 (n : Int)) (.int .i64 (n : Int))).run Try.prog w = .ok (.slice (some ⟨w.heap.size, 0, none⟩) n n) (w.alloc (.cells (madeCells #[.int .i64 0, .int .i64 0] (n * 2)) 99)) := by
  obtain ⟨i, hi, hz, hs, hb⟩ := info_parts Try.info99
  have hb' : (i.bytes : Int) * (n : Int) ≤ 281474976710656 := by rw [hb]; omega
  have hr := run_make (P := Try.prog) w 95 99 i (.agg #[.int .i64 0, .int .i64 0]) Try.underlying95 hi hz .i64 .i64 n n (by omega) (Int.le_refl _) hb' (by omega)
  simp only [Int.toNat_natCast] at hr
  rw [hs] at hr
  exact hr
theorem made_rep {n : Nat} (hn : n ≤ 4) : madeCells #[.int .i64 0, .int .i64 0] (n * 2) = (repC 0 n).toArray := by
  rcases n with _ | _ | _ | _ | _ | n
  all_goals first | omega | kernel_rfl

set_option maxRecDepth 100000 in
set_option maxHeartbeats 1000000 in
theorem repeat_c {n : Nat} (hn : n ≤ 4) (h1 : 1 ≤ n) {w : World} {b : Nat} (h : Blk b #[.int .i64 0, .int .i64 9] 99 w) : Calls Try.prog 106 #[.slice (some ⟨b, 0, none⟩) 1 1, .int .i64 n] w fun e w' => ∃ g, e = .returned (.slice (some ⟨g, 0, none⟩) n n) ∧ w.heap.size ≤ g ∧ Blk g ((List.replicate n ((0 : Int), (9 : Int))).flatMap rcells).toArray 99 w' ∧ Below w.heap.size w w' := by
  have c0 := h.cell 0
  have c1 := h.cell 1
  have hlt := h.lt
  have hmk := run_make_ends n (by omega) w
  rw [made_rep hn] at hmk
  have bw : IntKind.u64.wrap ((n : Nat) : Int) = ((n : Nat) : Int) := by
    rcases n with _ | _ | _ | _ | _ | n
    all_goals first | omega | kernel_rfl
  have bw2 : IntKind.i64.wrap ((n : Nat) : Int) = ((n : Nat) : Int) := IntWalk.i64_in _ (by omega)
  have hm1 : Nat.min 1 n = 1 := by have : min 1 n = 1 := by omega
                                   exact this
  have hcp : (Builtin.copy_ #[95, 95] 3 #[.slice (some ⟨w.heap.size, 0, none⟩) n n, .slice (some ⟨b, 0, none⟩) 1 1]).run Try.prog (w.alloc (.cells (repC 0 n).toArray 99)) = .ok (goInt (Nat.min 1 n)) ((w.alloc (.cells (repC 0 n).toArray 99)).setCells w.heap.size 0 [.int .i64 0, .int .i64 9]) := by
    refine run_copy_sz 95 95 3 99 w.heap.size 0 n n ⟨b, 0, none⟩ 1 1 2 _ Try.underlying95 Try.size99 (by rw [hm1]; rfl) ?_ ?_ ?_ ?_
    · intro j v hj
      have ha : (⟨b, 0, none⟩ : Addr).add j = ⟨b, 0 + j, none⟩ := by unfold Addr.add; split <;> simp_all
      rw [ha, (h.alloc _).cell]
      rw [Nat.zero_add]
      simpa using hj
    · intro j hj
      have hn2 : j < (repC 0 n).length := by rw [repC_len (by omega)]; simp at hj; omega
      rw [(Blk.new w (repC 0 n).toArray 99).cell]
      simpa using hn2
    · intro j _
      exact (Blk.new w (repC 0 n).toArray 99).free _
    · simp
      exact ⟨rfl, rfl⟩
  rw [hm1] at hcp
  obtain ⟨W1, hW1⟩ : ∃ W1, W1 = (w.alloc (.cells (repC 0 n).toArray 99)).setCells w.heap.size 0 [.int .i64 0, .int .i64 9] := ⟨_, rfl⟩
  have hE : Blk w.heap.size (repC 1 n).toArray 99 W1 := by
    have h0 : Blk w.heap.size (List.flatMap rcells (List.replicate 0 (0, 9)) ++ (List.flatMap rcells (List.replicate 1 (0, 0)) ++ List.flatMap rcells (List.replicate (n - (0 + 1)) (0, 0)))).toArray 99 (w.alloc (.cells (repC 0 n).toArray 99)) := by
      rw [← repC_next 0 1 n h1]
      exact Blk.new w (repC 0 n).toArray 99
    have h1 := Blk.setCells (q' := (List.replicate 1 ((0 : Int), (9 : Int))).flatMap rcells) h0 (by simp [rcells])
    rw [repC_next' 0 1 n] at h1
    rw [hW1]
    exact h1
  have hB : Below w.heap.size w W1 := by rw [hW1]; exact below_setCells (Nat.le_refl _) ((Below.refl _ w).alloc (Nat.le_refl _) _)
  rw [← hW1] at hcp
  clear hW1
  go_enter Try.func106, Try.ntmps106
  go_wp2_with (go_at_call 121; refine (mul_c hn _).mono ?_; rintro e w' ⟨rfl, rfl⟩)
  clear c0 c1 hmk hcp bw
  obtain ⟨g, hg⟩ : ∃ g, g = w.heap.size := ⟨_, rfl⟩
  rw [← hg] at hE hB ⊢
  have hg1 : w.heap.size ≤ g := Nat.le_of_eq hg.symm
  clear hg
  go_loopw [8] (fun i wr => ∃ m : Nat, 1 ≤ m ∧ m ≤ n ∧ i = .int .i64 m ∧ Blk g (repC m n).toArray 99 wr ∧ Below g w wr) (fun i _ => n - (intOf i).toNat)
  case atStart => exact ⟨1, by omega, h1, rfl, hE, hB⟩
  case round =>
    obtain ⟨m, hm0, hmn, rfl, hE, hB⟩ := hrel
    have hgw := hE.lt
    by_cases hlt2 : m < n
    · have hne : ¬ n = m := by omega
      obtain ⟨k, hk⟩ : ∃ k, k = Nat.min m (n - m) := ⟨_, rfl⟩
      have hk' : k = min m (n - m) := hk
      have hkm : k ≤ m := by omega
      have hkn : m + k ≤ n := by omega
      have hk1 : 1 ≤ k := by omega
      have HK := Lib.hid hk
      clear hk hk'
      go_wp2_with fail
      refine wp_region_mix2 (.pur 0 (.pur 1 (.pur 2 (.pur 3 (.pur 4 (.pur 5 (.pur 6 (.act 7 (.pur 8 (.pur 9 .fin)))))))))) 7 (fun _ => True) (fun _ => True) (by kernel_rfl) (by kernel_rfl) rfl (by kernel_rfl) trivial (fun wd hqd _ => ?_)
      have hE' := hE.qt hqd
      have hB' := hB.trans ((hqd.below wr.heap.size).mono (Nat.le_of_lt hgw))
      refine mix_pur2 rfl (fun K hK => ?_)
      go_simp
      first | refine ⟨_, fun _ => rfl, hK _ ?_⟩ | refine hK _ ?_
      clear hK K
      refine mix_pur2 rfl (fun K hK => ?_)
      go_simp
      first | refine ⟨_, fun _ => rfl, hK _ ?_⟩ | refine hK _ ?_
      clear hK K
      refine mix_pur2 rfl (fun K hK => ?_)
      go_simp
      first | refine ⟨_, fun _ => rfl, hK _ ?_⟩ | refine hK _ ?_
      clear hK K
      refine mix_pur2 rfl (fun K hK => ?_)
      go_simp
      first | refine ⟨_, fun _ => rfl, hK _ ?_⟩ | refine hK _ ?_
      clear hK K
      refine mix_pur2 rfl (fun K hK => ?_)
      go_simp
      first | refine ⟨_, fun _ => rfl, hK _ ?_⟩ | refine hK _ ?_
      clear hK K
      refine mix_pur2 rfl (fun K hK => ?_)
      go_simp
      first | refine ⟨_, fun _ => rfl, hK _ ?_⟩ | refine hK _ ?_
      clear hK K
      refine mix_pur2 rfl (fun K hK => ?_)
      go_simp
      first | refine ⟨_, fun _ => rfl, hK _ ?_⟩ | refine hK _ ?_
      clear hK K
      refine mix_eff2 rfl true rfl (fun K hK => ?_)
      refine step_copy_sz rfl _ _ 95 95 rfl 99 2 Try.underlying95 Try.size99 rfl rfl ((List.replicate k ((0 : Int), (9 : Int))).flatMap rcells) ?_ ?_ ?_ ?_ ?_ ?_
      · rw [rep_len, HK.out]
      · intro j v hj
        have ha : (⟨g, 0, none⟩ : Addr).add j = ⟨g, 0 + j, none⟩ := by unfold Addr.add; split <;> simp_all
        rw [ha, hE'.cell, Nat.zero_add]
        have hjl := (List.getElem?_eq_some_iff.1 hj).1
        have hj := ((rep_pre (n := n) hkm).1 hj).2
        rw [rep_len] at hjl
        simpa using hj
      · intro j hj
        rw [hE'.cell]
        rw [rep_len] at hj
        have := repC_len hmn
        simp
        omega
      · exact fun j _ => hE'.free _
      · exact cells_one rcells_one _
      have hE2 := Blk.setCells (q' := (List.replicate k ((0 : Int), (9 : Int))).flatMap rcells) (by rw [← repC_next m k n hkn]; exact hE') (by rw [rep_len, rep_len])
      rw [repC_next', rep_len] at hE2
      have hB2 : Below g w (wd.setCells g (m * 2) ((List.replicate k ((0 : Int), (9 : Int))).flatMap rcells)) := below_setCells (Nat.le_refl _) hB'
      refine hK _ _ trivial ?_
      clear hK K
      refine mix_pur2 rfl (fun K hK => ?_)
      go_simp
      first | refine ⟨_, fun _ => rfl, hK _ ?_⟩ | refine hK _ ?_
      clear hK K
      refine mix_pur2 rfl (fun K hK => ?_)
      go_simp
      first | refine ⟨_, fun _ => rfl, hK _ ?_⟩ | refine hK _ ?_
      clear hK K
      refine mix_done2 ?_
      rw [← HK.out]
      have bk : IntKind.i64.wrap ((m : Int) + (k : Int)) = ((m + k : Nat) : Int) := by rw [IntWalk.i64_in _ (by omega)]; omega
      rw [bk]
      clear hE' hB' hE hB
      generalize wd.setCells g (m * 2) ((List.replicate k ((0 : Int), (9 : Int))).flatMap rcells) = wf at hE2 hB2 ⊢
      go_wp2
      go_roundw
      case rel => exact ⟨m + k, by omega, hkn, rfl, hE2, hB2⟩
      case measure => simp [intOf]; omega
    · obtain rfl : m = n := by omega
      go_wp2
      go_ret
      refine ⟨g, rfl, hg1, ?_, hB.mono hg1⟩
      rw [repC, Nat.sub_self, List.replicate_zero, List.flatMap_nil, List.append_nil] at hE
      exact hE

end Go.Proofs.Ytgdifckmjdjcpaa
