/- Sums of envy; the pieces of Fair; conditions: as said at each. -/
import Derived.Test.YtmlikgjfpmjdcaaGreatDoorA8
import Derived.Test.YtmlikgjfpmjdcaaGreatDoorB1
import Derived.Test.YtmlikgjfpmjdcaaGreatDoorA9

/- The contracts of envy.of and of sum over envy (lots); conditions: as many villages as mountains in the division. -/
namespace Go.Proofs.YtmlikgjfpmjdcaaGreatDoor
open Go.RowKit

def envyAt (vs : List Vil) (l : List Int) (v : Nat) : Nat := (l.filter fun m => decide (rk vs v m < rk vs v (l.getD v 0))).length
def envyL (vs : List Vil) (l : List Int) : List Int := (List.range l.length).map fun v => (envyAt vs l v : Int)
def sumL (l : List Int) : Int := l.foldl (· + ·) 0
theorem sumL_snoc (l : List Int) (x : Int) : sumL (l ++ [x]) = sumL l + x := by simp [sumL]
def envySum (vs : List Vil) (l : List Int) : Int := sumL (envyL vs l)

theorem envyL_len (vs : List Vil) (l : List Int) : (envyL vs l).length = l.length := by simp [envyL]
theorem envyL_at (vs : List Vil) (l : List Int) (k : Nat) (h : k < (envyL vs l).length) : (envyL vs l)[k] = (envyAt vs l k : Int) := by simp [envyL]
theorem envyAt_le (vs : List Vil) (l : List Int) (v : Nat) : envyAt vs l v ≤ l.length := List.length_filter_le _ _

def cntTo (vs : List Vil) (l : List Int) (v j : Nat) : Nat := ((l.take j).filter fun m => decide (rk vs v m < rk vs v (l.getD v 0))).length
theorem cntTo_succ (vs : List Vil) (l : List Int) (v j : Nat) (h : j < l.length) : cntTo vs l v (j + 1) = cntTo vs l v j + if rk vs v l[j] < rk vs v (l.getD v 0) then 1 else 0 := by
  rw [cntTo, List.take_succ_eq_append_getElem h, List.filter_append, List.length_append, ← cntTo]
  congr 1
  rw [List.filter_cons, List.filter_nil]
  by_cases e : rk vs v l[j] < rk vs v (l.getD v 0)
  · rw [if_pos e, if_pos (by simpa using e)]; rfl
  · rw [if_neg e, if_neg (by simpa using e)]; rfl
theorem cntTo_all (vs : List Vil) (l : List Int) (v : Nat) : cntTo vs l v l.length = envyAt vs l v := by rw [cntTo, List.take_length]; rfl
theorem cntTo_le (vs : List Vil) (l : List Int) (v j : Nat) : cntTo vs l v j ≤ j := Nat.le_trans (List.length_filter_le _ _) (List.length_take_le _ _)

set_option maxRecDepth 100000 in
set_option maxHeartbeats 2000000 in
theorem envyOf_c {A A' : Nat → Prop} {w : World} {wb : Nat} {vm vv vd : Value} {vs : List Vil} {l : List Int} (hw : Blk wb #[vm, vv] 93 w) (h : Vils A w vv vs) (hd : Ints A' w vd l) (hlen : l.length ≤ vs.length) (hl : l.length ≤ 1000) :
    Calls Tryz.prog 136 #[.agg #[.pointer (some ⟨wb, 0, none⟩)], vd] w fun e w' => ∃ v', e = .returned v' ∧ Ints (fun k => w.heap.size ≤ k) w' v' (envyL vs l) ∧ Below w.heap.size w w' := by
  obtain ⟨ad, cpd, rfl, _, _⟩ := hd.shape
  have nd := hd.len
  have hB0 : Below w.heap.size w (w.alloc (.cells #[.pointer (some ⟨wb, 0, none⟩)] 103)) := (Below.refl _ w).alloc (Nat.le_refl _) _
  have hx0 : Blk w.heap.size #[.pointer (some ⟨wb, 0, none⟩)] 103 (w.alloc (.cells #[.pointer (some ⟨wb, 0, none⟩)] 103)) := Blk.new w _ _
  go_enter Tryz.func136, Tryz.ntmps136
  go_wp2_with fail
  go_loopw [5, 13] (fun o i wr => ∃ k : Nat, k ≤ l.length ∧ i = .int .i64 k ∧ Own (w.heap.size + 1) wr 3 1 o k (I64 ((envyL vs l).take k)) ∧ Blk w.heap.size #[.pointer (some ⟨wb, 0, none⟩)] 103 wr ∧ Below w.heap.size w wr) (fun _ i _ => l.length - (intOf i).toNat)
  case atStart => exact ⟨0, Nat.zero_le _, rfl, Own.nil, hx0, hB0⟩
  case round =>
    rename World => wa
    obtain ⟨k, hk, rfl, ho, hx, hB⟩ := hrel
    clear hB0 hx0
    have hsz := hx.lt
    by_cases hlt : k < l.length
    · have hda := hd.call hB
      have hwa := hw.call hB
      have hva := h.call hB
      obtain ⟨bd, od, rfl, -, -, -⟩ := hda.addr (by omega)
      have gd := hda.cell k hlt
      obtain ⟨x, hxe⟩ : ∃ x, x = l[k] := ⟨_, rfl⟩
      have hget : l.getD k 0 = x := by rw [hxe, List.getD_eq_getElem?_getD, List.getElem?_eq_getElem hlt]; rfl
      rw [← hxe] at gd
      have HG := Lib.hid hget
      clear hxe hget
      have hsn : (envyL vs l).take (k + 1) = (envyL vs l).take k ++ [(envyAt vs l k : Int)] := by
        rw [List.take_succ_eq_append_getElem (by rw [envyL_len]; exact hlt), envyL_at]
      have HS := Lib.hid hsn
      clear hsn
      go_wp2
      go_loopw [8, 20] (fun c i wx => ∃ j : Nat, j ≤ l.length ∧ i = .int .i64 j ∧ c = .int .i64 (cntTo vs l k j) ∧ Qt wa wx) (fun _ i _ => l.length - (intOf i).toNat)
      case atStart => exact ⟨0, Nat.zero_le _, rfl, rfl, Qt.refl _⟩
      case round =>
        obtain ⟨j, hj, rfl, rfl, hq⟩ := hrel
        have hcl := cntTo_le vs l k j
        have hxr := hx.keep (w' := wr) (by rw [hq.heap])
        have hwr := hwa.keep (w' := wr) (by rw [hq.heap])
        have hvr := hva.qt hq
        by_cases hjl : j < l.length
        · have gj := (hda.qt hq).cell j hjl
          have c0 := hxr.cell 0
          have hcs := cntTo_succ vs l k j hjl
          rw [HG.out] at hcs
          have hpr := prefers_c hwr hvr k (by omega) l[j] x
          have HP := Lib.hid hpr
          by_cases hlt2 : rk vs k l[j] < rk vs k x
          · rw [if_pos hlt2] at hcs
            have HC := Lib.hid hcs
            clear hcs hpr
            have b : decide (rk vs k l[j] < rk vs k x) = true := decide_eq_true hlt2
            go_wp2_with (go_at_call 70; refine HP.out.mono ?_; rintro e w1 ⟨rfl, hq1⟩)
            go_roundw
            case rel => exact ⟨j + 1, by omega, by go_num, by rw [HC.out]; go_num, hq.trans hq1⟩
            case measure => simp [intOf]; omega
          · rw [if_neg hlt2] at hcs
            have HC := Lib.hid hcs
            clear hcs hpr
            have b : decide (rk vs k l[j] < rk vs k x) = false := decide_eq_false hlt2
            go_wp2_with (go_at_call 70; refine HP.out.mono ?_; rintro e w1 ⟨rfl, hq1⟩)
            go_roundw
            case rel => exact ⟨j + 1, by omega, by go_num, by rw [HC.out]; go_num, hq.trans hq1⟩
            case measure => simp [intOf]; omega
        · obtain rfl : j = l.length := by omega
          have hca := cntTo_all vs l k
          rw [hca] at hcl ⊢
          obtain ⟨c, hc⟩ : ∃ c, c = envyAt vs l k := ⟨_, rfl⟩
          rw [← hc] at hcl ⊢
          have HCC := Lib.hid hc
          clear hc hca
          have ho' := Own.alloc (ho.qt hq) (.cells #[.int .i64 (c : Int)] 3)
          have ha := arr_one wr 3 (.int .i64 (c : Int))
          have hzr : wa.heap.size ≤ wr.heap.size := by rw [hq.size]; exact Nat.le_refl _
          go_wp2_with (at_builtin; refine wpList_append_arr rfl _ _ 22 rfl 3 (.int .i64 0) 1 8 Tryz.underlying22 Tryz.info3 rfl (by decide) (by decide) (by simp; omega) ho' rfl ha rfl rfl (one_int _) (by omega) ?_; intro v' w' hown hT)
          go_roundw
          case rel =>
            refine ⟨k + 1, by omega, by go_num, ?_, ?_, ?_⟩
            · rw [HS.out, I64_append, ← HCC.out]
              exact hown
            · exact (hxr.alloc _).keep (hT.block _ (by simp; omega) (fun e => by have := (ho'.lt _ e).1; omega))
            · exact hT.below2 ho' ((hB.trans (hq.below _)).alloc (by omega) _) (by simp; omega) (by omega)
          case measure => simp [intOf]; omega
    · obtain rfl : k = l.length := by omega
      go_wp2
      go_ret
      refine ⟨_, rfl, ?_, hB⟩
      rw [List.take_of_length_le (by rw [envyL_len]; exact Nat.le_refl _)] at ho
      exact (Own.ints ho).wide fun b hb _ => by omega

end Go.Proofs.YtmlikgjfpmjdcaaGreatDoor

/- The contract of sum over envy (lots); conditions: as many villages as mountains in the division, numbers of at most 60 villages. -/
namespace Go.Proofs.YtmlikgjfpmjdcaaGreatDoor
open Go.RowKit

theorem sumL_le : ∀ (l : List Int) (b : Int), (∀ x ∈ l, 0 ≤ x ∧ x ≤ b) → ∀ k, k ≤ l.length → 0 ≤ sumL (l.take k) ∧ sumL (l.take k) ≤ b * k := by
  intro l b h k
  induction k with
  | zero => intro _; simp [sumL]
  | succ k ih =>
    intro hk
    have h1 := ih (by omega)
    rw [List.take_succ_eq_append_getElem (by omega), sumL_snoc]
    have h2 := h l[k] (List.getElem_mem _)
    have : b * ((k + 1 : Nat) : Int) = b * k + b := by rw [Int.natCast_add, Int.mul_add]; simp
    omega
theorem envyL_mem (vs : List Vil) (l : List Int) (x : Int) (h : x ∈ envyL vs l) : 0 ≤ x ∧ x ≤ l.length := by
  obtain ⟨v, _, rfl⟩ := List.mem_map.1 h
  have := envyAt_le vs l v
  omega

/-- A method's call, where it is known which function that is. -/
theorem upon_method {P : Program} {o : Oper} {a : Act} {K : Act → World → Prop} {Q : Exit → Act → World → Prop} {w : World} {m : Sem (FuncId × Value)} {g : FuncId × Value → Sem Next} (f : FuncId) (y : Value) (h : m.run P w = .ok (f, y) w)
    (hk : o.upon P a K Q ((g (f, y)).run P w)) : o.upon P a K Q ((Sem.run P m w).andThen fun a w' => Sem.run P (g a) w') := by
  rw [h]; exact hk

set_option maxRecDepth 100000 in
set_option maxHeartbeats 1000000 in
theorem sum_c {A A' : Nat → Prop} {w : World} {wb : Nat} {vm vv vd : Value} {vs : List Vil} {l : List Int} (hw : Blk wb #[vm, vv] 93 w) (h : Vils A w vv vs) (hd : Ints A' w vd l) (hlen : l.length ≤ vs.length) (hl : l.length ≤ 1000) :
    Calls Tryz.prog 50 #[.iface 103 (.agg #[.pointer (some ⟨wb, 0, none⟩)]), vd] w fun e w' => e = .returned (.int .i64 (envySum vs l)) ∧ Below w.heap.size w w' := by
  have hbd := sumL_le (envyL vs l) l.length (envyL_mem vs l)
  have hmem := envyL_mem vs l
  have hel := envyL_len vs l
  rw [envySum]
  obtain ⟨el, hee⟩ : ∃ el, el = envyL vs l := ⟨_, rfl⟩
  rw [← hee] at hbd hmem hel ⊢
  have HBD := Lib.hid hbd
  have HMEM := Lib.hid hmem
  have HEE := Lib.hid hee
  have hel2 : el.length ≤ 1000 := by omega
  have hlb : (l.length : Int) * el.length ≤ 1000000 := by
    have h1 : l.length * el.length ≤ 1000 * 1000 := Nat.mul_le_mul hl hel2
    have h2 := Int.ofNat_le.2 h1
    rw [Int.natCast_mul] at h2
    exact Int.le_trans h2 (by decide)
  have HEL := Lib.hid hel
  have HLB := Lib.hid hlb
  clear hbd hmem hee hel hlb
  go_enter Tryz.func50, Tryz.ntmps50
  go_wp2_with fail
  refine upon_method 136 (.agg #[.pointer (some ⟨wb, 0, none⟩)]) (by kernel_rfl) ?_
  go_wp2_with fail
  go_at_call 136
  refine (envyOf_c hw h hd hlen hl).mono ?_
  rintro e w1 ⟨v1, rfl, hv, hB⟩
  rw [← HEE.out] at hv
  obtain ⟨av, cv, rfl, _, _⟩ := hv.shape
  have nv := hv.len
  go_wp2_with fail
  go_loop [5, 12] (fun s i => ∃ k : Nat, k ≤ el.length ∧ i = .int .i64 k ∧ s = .int .i64 (sumL (el.take k))) (fun _ i => el.length - (intOf i).toNat)
  case atStart => exact ⟨0, Nat.zero_le _, rfl, rfl⟩
  case round =>
    obtain ⟨k, hk, rfl, rfl⟩ := hrel
    by_cases hlt : k < el.length
    · obtain ⟨bd, od, rfl, -, -, -⟩ := hv.addr (by omega)
      have g := hv.cell k hlt
      have h1 := HBD.out k (by omega)
      have h2 := HBD.out (k + 1) (by omega)
      have h3 : sumL (el.take (k + 1)) = sumL (el.take k) + el[k] := by rw [List.take_succ_eq_append_getElem hlt, sumL_snoc]
      obtain ⟨x, hx⟩ : ∃ x, x = el[k] := ⟨_, rfl⟩
      rw [← hx] at g h3
      have hb1 : (l.length : Int) * k ≤ 1000000 := by
        have : (l.length : Int) * k ≤ l.length * el.length := Int.mul_le_mul_of_nonneg_left (by omega) (by omega)
        have := HLB.out; omega
      have hb2 : (l.length : Int) * ((k + 1 : Nat) : Int) ≤ 1000000 := by
        have : (l.length : Int) * ((k + 1 : Nat) : Int) ≤ l.length * el.length := Int.mul_le_mul_of_nonneg_left (by omega) (by omega)
        have := HLB.out; omega
      have b1 : 0 ≤ sumL (el.take k) ∧ sumL (el.take k) ≤ 1000000 := by omega
      have b2 : 0 ≤ sumL (el.take k) + x ∧ sumL (el.take k) + x ≤ 1000000 := by omega
      have H3 := Lib.hid h3
      clear h1 h2 h3 hb1 hb2 hx
      obtain ⟨b1, b1'⟩ := b1
      obtain ⟨b2, b2'⟩ := b2
      go_wp2
      go_round
      case rel => exact ⟨k + 1, by omega, by go_num, by rw [H3.out]⟩
      case measure => simp [intOf]; omega
    · obtain rfl : k = el.length := by omega
      go_wp2
      go_ret
      exact ⟨ret_int rfl, hB⟩

end Go.Proofs.YtmlikgjfpmjdcaaGreatDoor

/- Appends onto a full slice; the contracts of keeper.offer, and of the closure that asks whether two divisions give a village the same mountain; conditions: as said. -/
namespace Go.Proofs.YtmlikgjfpmjdcaaGreatDoor
open Go.RowKit

theorem run_append_full {A : Nat → Prop} {w : World} {ao : Option Addr} {l : List Int} (h : Ints A w (.slice ao l.length l.length) l) (hl : l.length ≤ 1000) (ty : TypeId) (a : Addr) (c : Nat) (x : Int) (hx : w.cell? a = some (.int .i64 x)) :
    ∃ v' w', (Builtin.append_ #[22, 22] ty #[.slice ao l.length l.length, .slice (some a) 1 c]).run Tryz.prog w = .ok v' w' ∧ Own w.heap.size w' 3 1 v' (l.length + 1) (I64 (l ++ [x])) ∧ Below w.heap.size w w' := by
  obtain ⟨i, hi, hz, hs, hb⟩ := info_parts Tryz.info3
  have hadd : ∀ (b off j : Nat), (⟨b, off, none⟩ : Addr).add j = ⟨b, off + j, none⟩ := fun b off j => by unfold Addr.add; split <;> simp_all
  have hnews : ∀ j u, [Value.int .i64 x][j]? = some u → w.cell? (a.add j) = some u := fun j u hj => by
    cases j with
    | zero => rw [show a.add 0 = a from by unfold Addr.add; split <;> simp_all]; simpa using hj ▸ hx
    | succ j => simp at hj
  cases ao with
  | none =>
    have h0 : l = [] := by
      obtain ⟨ao, cap, e, h1, h2, h3⟩ := h
      cases e
      exact List.eq_nil_of_length_eq_zero (h2.2 rfl)
    subst h0
    obtain ⟨v', w', hr, h2, hT⟩ := run_append_turned (P := Tryz.prog) (w := w) 22 ty 3 i (.int .i64 0) 1 8 Tryz.underlying22 hi hz hs hb rfl (by decide) (.slice none 0 0) 0 [] w.heap.size (Nat.le_refl _) Own.nil a 1 c [.int .i64 x] rfl hnews (one_int x) (by unfold maxLen; omega) (by omega)
    exact ⟨v', w', hr, by simpa [I64] using h2, hT.below (Own.nil (B := w.heap.size) (e := 3) (sz := 1)) (Below.refl _ _) (Nat.le_refl _)⟩
  | some ad =>
    have holds : ∀ j u, (I64 l)[j]? = some u → w.cell? (ad.add j) = some u := fun j u hj => by
      have hjl : j < l.length := by have := (List.getElem?_eq_some_iff.1 hj).1; rwa [I64_len] at this
      obtain ⟨b, off, e, _, _, hc⟩ := h.addr (by omega)
      have e' := Option.some.inj e
      rw [e', hadd, hc j hjl, ← I64_at l j hjl, hj]
    have hr := run_append_grow (P := Tryz.prog) w 22 ty 3 i (.int .i64 0) Tryz.underlying22 hi hz ad l.length l.length (I64 l) (by rw [I64_len, hs, Nat.mul_one]) holds a 1 c [.int .i64 x] (by rw [hs]; rfl) hnews (by omega) (by omega) (growslice_fits (by omega) (by rw [hb]; omega))
    refine ⟨_, _, hr, ?_, ⟨rfl, rfl, rfl, by simp, fun k hk => Below.heap_alloc w.drew _ k hk⟩⟩
    have hge := grownCap_ge w (l.length + 1) l.length 3
    have hcm : grownCap w (l.length + 1) l.length 3 ≤ maxLen := grownCap_le_maxLen w (l.length + 1) l.length 3 (by unfold maxLen; omega)
    refine ⟨by rw [I64_len]; simp, .inr ⟨w.heap.size, _, _, rfl, Nat.le_refl _, heap_alloc_new w.drew _, hge, hcm, ?_, ?_⟩⟩
    · have h1 : (Value.int .i64 0).cells.size = 1 := rfl
      simp only [Array.size_append, List.size_toArray, size_zeroCells, h1, I64_len, List.length_singleton]
      omega
    · simp only [Array.toList_append]
      rw [I64_append, List.take_append_of_le_length (by simp [I64_len]), List.take_of_length_le (by simp [I64_len])]
      rfl

theorem wp_append_full {o : Oper} {a : Act} {w : World} {K : Act → World → Prop} {Q : Exit → Act → World → Prop} (s y : Operand) (ho : o.op = .call { callee := .builtin .append, args := #[s, y], argTypes := #[22, 22] })
    {A : Nat → Prop} {ao : Option Addr} {l : List Int} (h : Ints A w (.slice ao l.length l.length) l) (hl : l.length ≤ 1000) (hs : a.eval s = .slice ao l.length l.length) {ad : Addr} {c : Nat} {x : Int} (hy : a.eval y = .slice (some ad) 1 c) (hx : w.cell? ad = some (.int .i64 x))
    (hk : ∀ v' w', Own w.heap.size w' 3 1 v' (l.length + 1) (I64 (l ++ [x])) → Below w.heap.size w w' → K (a.put o.dst v') w') : o.wp Tryz.prog a w K Q := by
  obtain ⟨v', w', hr, h2, h3⟩ := run_append_full h hl o.type ad c x hx
  unfold Oper.wp execOp
  simp only [ho, resolve, invoke, builtin, Sem.run_bind, Sem.run_pure, Result.andThen_ok, List.map_toArray, List.map_cons, List.map_nil, hs, hy, hr]
  exact hk v' w' h2 h3
theorem step_append_full {ops : Array Oper} {o : Oper} {a : Act} {w : World} {K : Act → World → Prop} {Q : Exit → Act → World → Prop} {E : Prop} (hgd : o.guard = none) (s y : Operand) (ho : o.op = .call { callee := .builtin .append, args := #[s, y], argTypes := #[22, 22] })
    {A : Nat → Prop} {ao : Option Addr} {l : List Int} (h : Ints A w (.slice ao l.length l.length) l) (hl : l.length ≤ 1000) (hs : a.eval s = .slice ao l.length l.length) {ad : Addr} {c : Nat} {x : Int} (hy : a.eval y = .slice (some ad) 1 c) (hx : w.cell? ad = some (.int .i64 x))
    (hk : ∀ v' w', Own w.heap.size w' 3 1 v' (l.length + 1) (I64 (l ++ [x])) → Below w.heap.size w w' → K (a.put o.dst v') w') : if Region.wanted o (yielded ops a.tmps) = true then Oper.wp Tryz.prog o a w K Q else E := by
  rw [if_pos (by simp [Region.wanted, hgd])]
  exact wp_append_full s y ho h hl hs hy hx hk

/-- The keeper takes what is offered. -/
theorem offer_take {w : World} {kb : Nat} {vb vk vx vkey : Value} {b : Bool} {key kkey : List Int} {A A' : Nat → Prop} {ax ak : Option Addr} {nx cx nk ck : Nat} (hxs : vx = .slice ax nx cx) (hks : vkey = .slice ak nk ck)
    (hK : Blk kb #[vb, vk, .bool b] 105 w) (h1 : Ints A w vkey key) (h2 : Ints A' w vk kkey) (ht : b = false ∨ cmpL key kkey < 0) :
    Calls Tryz.prog 52 #[.pointer (some ⟨kb, 0, none⟩), vx, vkey] w fun e w' => e = .returned (.tuple #[]) ∧ w' = ((w.setCell ⟨kb, 0, none⟩ vx).setCell ⟨kb, 1, none⟩ vkey).setCell ⟨kb, 2, none⟩ (.bool true) := by
  have c1 := hK.cell 1
  have c2 := hK.cell 2
  have f0 := hK.free 0
  have k1 := hK.set 0 vx
  have d1 := k1.cell 1
  have f1 := k1.free 1
  have k2 := k1.set 1 vkey
  have d2 := k2.cell 2
  have f2 := k2.free 2
  have c0 := hK.cell 0
  clear k1 k2
  subst hxs hks
  obtain ⟨a2, c2', rfl, _, _⟩ := h2.shape
  cases b with
  | false =>
    go_enter Tryz.func52, Tryz.ntmps52
    go_wp2
    go_end0
    exact ⟨rfl, rfl⟩
  | true =>
    have hlt : cmpL key kkey < 0 := by simpa using ht
    have hb : decide (cmpL key kkey < 0) = true := decide_eq_true hlt
    go_enter Tryz.func52, Tryz.ntmps52
    go_wp2_with (go_at_call 75; refine (compare_c h1 h2).mono ?_; rintro e w' ⟨rfl, rfl⟩)
    go_end0
    exact ⟨rfl, rfl⟩

theorem offer_keep {w : World} {kb : Nat} {vb vk vx vkey : Value} {key kkey : List Int} {A A' : Nat → Prop}
    (hK : Blk kb #[vb, vk, .bool true] 105 w) (h1 : Ints A w vkey key) (h2 : Ints A' w vk kkey) (ht : ¬ cmpL key kkey < 0) :
    Calls Tryz.prog 52 #[.pointer (some ⟨kb, 0, none⟩), vx, vkey] w fun e w' => e = .returned (.tuple #[]) ∧ w' = w := by
  have c1 := hK.cell 1
  have c2 := hK.cell 2
  have hb : decide (cmpL key kkey < 0) = false := decide_eq_false ht
  obtain ⟨a1, c1', rfl, _, _⟩ := h1.shape
  obtain ⟨a2, c2', rfl, _, _⟩ := h2.shape
  go_enter Tryz.func52, Tryz.ntmps52
  go_wp2_with (go_at_call 75; refine (compare_c h1 h2).mono ?_; rintro e w' ⟨rfl, rfl⟩)
  go_end0
  exact ⟨rfl, rfl⟩

end Go.Proofs.YtmlikgjfpmjdcaaGreatDoor

/- The contracts of the closure that asks whether two divisions give a village the same mountain, and of IndexFunc, ContainsFunc over it; conditions: as said. -/
namespace Go.Proofs.YtmlikgjfpmjdcaaGreatDoor
open Go.RowKit

/-- Two divisions give some village the same mountain. -/
def clashB (a d : List Int) : Bool := (List.range a.length).any fun v => d.getD v 0 == a.getD v 0
theorem clash_yes {a d : List Int} {k : Nat} (hk : k < a.length) (hd : k < d.length) (h : d[k] = a[k]) : clashB a d = true := by
  rw [clashB, List.any_eq_true]
  exact ⟨k, by simpa using hk, by simp [List.getD_eq_getElem?_getD, hk, hd, h]⟩
theorem clash_no {a d : List Int} (hl : a.length ≤ d.length) (h : ∀ k (p : k < a.length), d[k]'(by omega) ≠ a[k]) : clashB a d = false := by
  rw [clashB, List.any_eq_false]
  intro k hk
  rw [List.mem_range] at hk
  have hd : k < d.length := by omega
  simpa [List.getD_eq_getElem?_getD, hk, hd] using h k hk

set_option maxRecDepth 100000 in
set_option maxHeartbeats 1000000 in
theorem clash_c {A A' : Nat → Prop} {w : World} {ab db : Nat} {va vd : Value} {all : List (List Int)} {d : List Int} (hA : Blk ab #[va] 48 w) (hg : Grid A w va all) (hD : Blk db #[vd] 22 w) (hd : Ints A' w vd d) (y : Nat) (hy : y < all.length) (hl : all[y].length ≤ d.length) :
    Calls Tryz.prog 55 #[.int .i64 y, .pointer (some ⟨ab, 0, none⟩), .pointer (some ⟨db, 0, none⟩)] w fun e w' => e = .returned (.bool (clashB all[y] d)) ∧ w' = w := by
  have n1 := hg.len
  obtain ⟨aa, ca, rfl, _, _⟩ := hg.shape
  obtain ⟨ba, oa, rfl, _, _⟩ := hg.addr (by omega)
  obtain ⟨p1, d1, g1, i1⟩ := hg.row y hy
  obtain ⟨r, hr⟩ : ∃ r, r = all[y] := ⟨_, rfl⟩
  rw [← hr] at hl g1 i1 ⊢
  have HR := Lib.hid hr
  clear hr
  have nr := i1.len
  have nd := hd.len
  obtain ⟨ad, cd, rfl, _, _⟩ := hd.shape
  have c1 := hA.cell 0
  have c2 := hD.cell 0
  go_enter Tryz.func55, Tryz.ntmps55
  go_wp2
  go_loop [12] (fun i => ∃ k : Nat, k ≤ r.length ∧ i = .int .i64 k ∧ ∀ j (p : j < r.length), j < k → d[j]'(by omega) ≠ r[j]) (fun i => r.length - (intOf i).toNat)
  case atStart => exact ⟨0, Nat.zero_le _, rfl, by omega⟩
  case round =>
    obtain ⟨k, hk, rfl, hpre⟩ := hrel
    have HP := Lib.hid hpre
    clear hpre
    by_cases hlt : k < r.length
    · have hkd : k < d.length := by omega
      obtain ⟨b1, o1, rfl, -, -, -⟩ := i1.addr (by omega)
      obtain ⟨b2, o2, rfl, -, -, -⟩ := hd.addr (by omega)
      have e1 := i1.cell k hlt
      have e2 := hd.cell k hkd
      by_cases he : d[k] = r[k]
      · have hb : (d[k] == r[k]) = true := by simpa using he
        have HE := Lib.hid he
        clear he
        go_wp2
        go_ret
        exact ⟨ret_bool (clash_yes hlt hkd HE.out).symm, rfl⟩
      · have hb : (d[k] == r[k]) = false := by simpa using he
        have HE := Lib.hid he
        clear he
        go_wp2
        go_round
        case rel =>
          refine ⟨k + 1, by omega, by go_num, fun j p hj => ?_⟩
          by_cases e : j = k
          · subst e; exact HE.out
          · exact HP.out j p (by omega)
        case measure => simp [intOf]; omega
    · obtain rfl : k = r.length := by omega
      go_wp2
      go_ret
      exact ⟨ret_bool (clash_no hl fun j p => HP.out j p p).symm, rfl⟩

def fx (ys : List Int) (p : Int → Bool) : Int := match ys.findIdx? p with | some i => i | none => -1
theorem fx_at {ys : List Int} {p : Int → Bool} {k : Nat} (hk : k < ys.length) (h : p ys[k] = true) (hp : ∀ j (q : j < ys.length), j < k → p ys[j] = false) : fx ys p = k := by
  have : ys.findIdx? p = some k := by
    rw [List.findIdx?_eq_some_iff_getElem]
    exact ⟨hk, h, fun j hj => by simp [hp j (by omega) hj]⟩
  rw [fx, this]
theorem fx_none {ys : List Int} {p : Int → Bool} (hp : ∀ j (q : j < ys.length), p ys[j] = false) : fx ys p = -1 := by
  have : ys.findIdx? p = none := by
    rw [List.findIdx?_eq_none_iff]
    intro x hx
    obtain ⟨j, hj, rfl⟩ := List.getElem_of_mem hx
    exact hp j hj
  rw [fx, this]
theorem fx_any (ys : List Int) (p : Int → Bool) : decide (fx ys p ≥ 0) = ys.any p := by
  rw [fx]
  cases h : ys.findIdx? p with
  | some i =>
    have := (List.findIdx?_eq_some_iff_getElem.1 h)
    obtain ⟨hi, h1, _⟩ := this
    have : ys.any p = true := List.any_eq_true.2 ⟨_, List.getElem_mem hi, h1⟩
    rw [this]; simp
  | none =>
    rw [List.findIdx?_eq_none_iff] at h
    have : ys.any p = false := List.any_eq_false.2 fun x hx => by simp [h x hx]
    rw [this]; simp

def clashY (all : List (List Int)) (d : List Int) (y : Int) : Bool := clashB (all.getD y.toNat []) d

set_option maxRecDepth 100000 in
set_option maxHeartbeats 1000000 in
theorem indexF_c {A A' A2 : Nat → Prop} {w : World} {ab db : Nat} {va vd vy : Value} {all : List (List Int)} {d ys : List Int} (hA : Blk ab #[va] 48 w) (hg : Grid A w va all) (hD : Blk db #[vd] 22 w) (hd : Ints A' w vd d)
    (hys : Ints A2 w vy ys) (hv : ∀ y ∈ ys, 0 ≤ y ∧ y < all.length) (hl : ∀ l ∈ all, l.length ≤ d.length) :
    Calls Tryz.prog 76 #[vy, .func (.func 55) #[] #[.pointer (some ⟨ab, 0, none⟩), .pointer (some ⟨db, 0, none⟩)]] w fun e w' => e = .returned (.int .i64 (fx ys (clashY all d))) ∧ w' = w := by
  obtain ⟨ay, cy, rfl, _, _⟩ := hys.shape
  have n1 := hys.len
  have HV := Lib.hid hv
  have HL := Lib.hid hl
  clear hv hl
  go_enter Tryz.func76, Tryz.ntmps76
  go_wp2
  go_loopw [8] (fun i wx => wx = w ∧ ∃ k : Nat, k ≤ ys.length ∧ i = .int .i64 k ∧ ∀ j (p : j < ys.length), j < k → clashY all d ys[j] = false) (fun i _ => ys.length - (intOf i).toNat)
  case atStart => exact ⟨rfl, 0, Nat.zero_le _, rfl, by omega⟩
  case round =>
    obtain ⟨rfl, k, hk, rfl, hpre⟩ := hrel
    have HP := Lib.hid hpre
    clear hpre
    by_cases hlt : k < ys.length
    · obtain ⟨b1, o1, rfl, -, -, -⟩ := hys.addr (by omega)
      have e1 := hys.cell k hlt
      have hy := HV.out ys[k] (List.getElem_mem hlt)
      obtain ⟨y, hye⟩ : ∃ y : Nat, ys[k] = (y : Int) := ⟨ys[k].toNat, by omega⟩
      rw [hye] at e1 hy
      have hyl : y < all.length := by omega
      have hcl : clashY all d ys[k] = clashB all[y] d := by rw [hye, clashY]; simp [hyl]
      have hc := clash_c hA hg hD hd y hyl (HL.out _ (List.getElem_mem hyl))
      cases hb : clashB all[y] d with
      | true =>
        rw [hb] at hcl hc
        have HCL := Lib.hid hcl
        have HC := Lib.hid hc
        clear hcl hb hc hye
        go_wp2_with (go_at_call 55; refine HC.out.mono ?_; rintro e w' ⟨rfl, rfl⟩)
        go_ret
        exact ⟨ret_int (fx_at hlt HCL.out HP.out).symm, rfl⟩
      | false =>
        rw [hb] at hcl hc
        have HCL := Lib.hid hcl
        have HC := Lib.hid hc
        clear hcl hb hc hye
        go_wp2_with (go_at_call 55; refine HC.out.mono ?_; rintro e w' ⟨rfl, rfl⟩)
        go_roundw
        case rel =>
          refine ⟨trivial, k + 1, by omega, by go_num, fun j p hj => ?_⟩
          by_cases e : j = k
          · subst e; exact HCL.out
          · exact HP.out j p (by omega)
        case measure => simp [intOf]; omega
    · obtain rfl : k = ys.length := by omega
      go_wp2
      go_ret
      exact ⟨ret_int (fx_none fun j p => HP.out j p p).symm, rfl⟩

theorem contains_f {A A' A2 : Nat → Prop} {w : World} {ab db : Nat} {va vd vy : Value} {all : List (List Int)} {d ys : List Int} (hA : Blk ab #[va] 48 w) (hg : Grid A w va all) (hD : Blk db #[vd] 22 w) (hd : Ints A' w vd d)
    (hys : Ints A2 w vy ys) (hv : ∀ y ∈ ys, 0 ≤ y ∧ y < all.length) (hl : ∀ l ∈ all, l.length ≤ d.length) :
    Calls Tryz.prog 54 #[vy, .func (.func 55) #[] #[.pointer (some ⟨ab, 0, none⟩), .pointer (some ⟨db, 0, none⟩)]] w fun e w' => e = .returned (.bool (ys.any (clashY all d))) ∧ w' = w := by
  have hc := indexF_c hA hg hD hd hys hv hl
  have hany := fx_any ys (clashY all d)
  obtain ⟨f, hf⟩ : ∃ f, f = fx ys (clashY all d) := ⟨_, rfl⟩
  rw [← hf] at hc hany
  have HC := Lib.hid hc
  have HA := Lib.hid hany
  clear hc hany hf hv hl
  go_enter Tryz.func54, Tryz.ntmps54
  go_wp2_with (go_at_call 76; refine HC.out.mono ?_; rintro e w' ⟨rfl, rfl⟩)
  go_ret
  exact ⟨ret_bool HA.out, rfl⟩

end Go.Proofs.YtmlikgjfpmjdcaaGreatDoor

/- The contract of Fair's grow; conditions: at most four villages, at most 24 divisions. -/
namespace Go.Proofs.YtmlikgjfpmjdcaaGreatDoor
open Go.RowKit

def sumAt (sums : List Int) (y : Int) : Int := sums.getD y.toNat 0
def keyF (sums ys : List Int) : List Int := ys.map (sumAt sums) ++ ys
def offerF (sums : List Int) (ks : Option (List Int × List Int)) (ys : List Int) : Option (List Int × List Int) :=
  match ks with
  | none => some (ys, keyF sums ys)
  | some (b, k) => if cmpL (keyF sums ys) k < 0 then some (ys, keyF sums ys) else some (b, k)
def fitsY (all : List (List Int)) (ys : List Int) (i : Nat) : Bool := !(ys.any (clashY all (all.getD i [])))
def growF (all : List (List Int)) (sums : List Int) : Nat → List Int → Option (List Int × List Int) → Option (List Int × List Int)
  | 0, ys, ks => offerF sums ks ys
  | r + 1, ys, ks => (List.range all.length).foldl (fun ks i => if fitsY all ys i then growF all sums r (ys ++ [(i : Int)]) ks else ks) ks
def growTo (all : List (List Int)) (sums : List Int) (r : Nat) (ys : List Int) (ks : Option (List Int × List Int)) (k : Nat) : Option (List Int × List Int) :=
  (List.range k).foldl (fun ks i => if fitsY all ys i then growF all sums r (ys ++ [(i : Int)]) ks else ks) ks
theorem growTo_zero (all : List (List Int)) (sums : List Int) (r : Nat) (ys : List Int) (ks : Option (List Int × List Int)) : growTo all sums r ys ks 0 = ks := rfl
theorem growTo_succ (all : List (List Int)) (sums : List Int) (r : Nat) (ys : List Int) (ks : Option (List Int × List Int)) (k : Nat) :
    growTo all sums r ys ks (k + 1) = if fitsY all ys k then growF all sums r (ys ++ [(k : Int)]) (growTo all sums r ys ks k) else growTo all sums r ys ks k := by
  rw [growTo, List.range_succ, List.foldl_append]; rfl

/-- What Fair's grow finds: the boxes and what they lead to. -/
structure FEnv (n nb sb kb ab gb : Nat) (all : List (List Int)) (sums : List Int) (W : World) : Prop where
  bn : Blk nb #[.int .i64 n] 3 W
  bs : ∃ vs, Blk sb #[vs] 22 W ∧ Ints (fun k => k ≠ kb) W vs sums
  ba : ∃ va, Blk ab #[va] 48 W ∧ Grid (fun k => k ≠ kb) W va all
  bg : Blk gb #[.func (.func 51) #[] #[.pointer (some ⟨nb, 0, none⟩), .pointer (some ⟨sb, 0, none⟩), .pointer (some ⟨kb, 0, none⟩), .pointer (some ⟨ab, 0, none⟩), .pointer (some ⟨gb, 0, none⟩)]] 72 W
  n1 : nb ≠ kb
  n2 : sb ≠ kb
  n3 : ab ≠ kb
  n4 : gb ≠ kb
theorem Ints.keep {kb : Nat} {w w' : World} {v : Value} {l : List Int} (h : Ints (fun k => k ≠ kb) w v l) (hk : Keep (fun k => k = kb) w w') : Ints (fun k => k ≠ kb) w' v l :=
  h.step hk.size fun k hn hl => hk.block k hl hn
theorem Grid.keep {kb : Nat} {w w' : World} {v : Value} {l : List (List Int)} (h : Grid (fun k => k ≠ kb) w v l) (hk : Keep (fun k => k = kb) w w') : Grid (fun k => k ≠ kb) w' v l :=
  h.step hk.size fun k hn hl => hk.block k hl hn
theorem FEnv.keep {n nb sb kb ab gb : Nat} {all : List (List Int)} {sums : List Int} {W W' : World} (h : FEnv n nb sb kb ab gb all sums W) (hk : Keep (fun k => k = kb) W W') : FEnv n nb sb kb ab gb all sums W' := by
  obtain ⟨vs, hs1, hs2⟩ := h.bs
  obtain ⟨va, ha1, ha2⟩ := h.ba
  exact ⟨h.bn.keep (hk.block _ h.bn.lt h.n1), ⟨vs, hs1.keep (hk.block _ hs1.lt h.n2), hs2.keep hk⟩, ⟨va, ha1.keep (hk.block _ ha1.lt h.n3), ha2.keep hk⟩, h.bg.keep (hk.block _ h.bg.lt h.n4), h.n1, h.n2, h.n3, h.n4⟩
/-- What the keeper holds. -/
def KS (kb : Nat) (ks : Option (List Int × List Int)) (W : World) : Prop :=
  ∃ vb vk, match ks with
  | none => Blk kb #[.slice none 0 0, .slice none 0 0, .bool false] 105 W
  | some (b, k) => Blk kb #[vb, vk, .bool true] 105 W ∧ Ints (fun k => k ≠ kb) W vb b ∧ Ints (fun k => k ≠ kb) W vk k
theorem KS.call {kb : Nat} {ks : Option (List Int × List Int)} {W W' : World} (h : KS kb ks W) (hB : Below W.heap.size W W') : KS kb ks W' := by
  obtain ⟨vb, vk, h⟩ := h
  refine ⟨vb, vk, ?_⟩
  cases ks with
  | none => exact Blk.call h hB
  | some p => exact ⟨h.1.call hB, h.2.1.call hB, h.2.2.call hB⟩
theorem KS.lt {kb : Nat} {ks : Option (List Int × List Int)} {W : World} (h : KS kb ks W) : kb < W.heap.size := by
  obtain ⟨vb, vk, h⟩ := h
  cases ks with
  | none => exact Blk.lt h
  | some p => exact h.1.lt

def YearsOK (n nb sb kb ab gb : Nat) (all : List (List Int)) (sums : List Int) (r : Nat) : Prop :=
  ∀ (W : World) (ys : List Int) (vy : Value) (ks : Option (List Int × List Int)), FEnv n nb sb kb ab gb all sums W → KS kb ks W → Ints (fun k => k ≠ kb) W vy ys → (∀ y ∈ ys, 0 ≤ y ∧ y < all.length) → ys.length + r = n →
    Calls Tryz.prog 51 #[vy, .pointer (some ⟨nb, 0, none⟩), .pointer (some ⟨sb, 0, none⟩), .pointer (some ⟨kb, 0, none⟩), .pointer (some ⟨ab, 0, none⟩), .pointer (some ⟨gb, 0, none⟩)] W
      fun e W' => e = .returned (.tuple #[]) ∧ Keep (fun k => k = kb) W W' ∧ KS kb (growF all sums r ys ks) W'

/-- What offer makes of the keeper. -/
theorem offer_c {kb : Nat} {ks : Option (List Int × List Int)} {W : World} {vx vkey : Value} {ys : List Int} {sums : List Int} (hK : KS kb ks W) (hx : Ints (fun k => k ≠ kb) W vx ys) (hk : Ints (fun k => k ≠ kb) W vkey (keyF sums ys)) :
    Calls Tryz.prog 52 #[.pointer (some ⟨kb, 0, none⟩), vx, vkey] W fun e W' => e = .returned (.tuple #[]) ∧ Keep (fun k => k = kb) W W' ∧ KS kb (offerF sums ks ys) W' := by
  obtain ⟨a1, c1, rfl, _, _⟩ := hx.shape
  obtain ⟨a2, c2, rfl, _, _⟩ := hk.shape
  have hKp : Keep (fun k => k = kb) W (((W.setCell ⟨kb, 0, none⟩ (.slice a1 ys.length c1)).setCell ⟨kb, 1, none⟩ (.slice a2 (keyF sums ys).length c2)).setCell ⟨kb, 2, none⟩ (.bool true)) :=
    ((Keep.setCell (own := fun k => k = kb) W ⟨kb, 0, none⟩ _ rfl).trans (Keep.setCell (own := fun k => k = kb) (W.setCell ⟨kb, 0, none⟩ (.slice a1 ys.length c1)) ⟨kb, 1, none⟩ _ rfl)).trans (Keep.setCell (own := fun k => k = kb) ((W.setCell ⟨kb, 0, none⟩ (.slice a1 ys.length c1)).setCell ⟨kb, 1, none⟩ (.slice a2 (keyF sums ys).length c2)) ⟨kb, 2, none⟩ _ rfl)
  obtain ⟨vb, vk, h⟩ := hK
  cases ks with
  | none =>
    refine (offer_take rfl rfl h hk (ints_nil (fun _ => True) W) (.inl rfl)).mono ?_
    rintro e W' ⟨rfl, rfl⟩
    exact ⟨rfl, hKp, _, _, Blk.set3 h, hx.keep hKp, hk.keep hKp⟩
  | some p =>
    obtain ⟨b, k⟩ := p
    obtain ⟨h1, h2, h3⟩ := h
    by_cases hlt : cmpL (keyF sums ys) k < 0
    · refine (offer_take rfl rfl h1 hk h3 (.inr hlt)).mono ?_
      rintro e W' ⟨rfl, rfl⟩
      rw [offerF, if_pos hlt]
      exact ⟨rfl, hKp, _, _, Blk.set3 h1, hx.keep hKp, hk.keep hKp⟩
    · refine (offer_keep h1 hk h3 hlt).mono ?_
      rintro e W' ⟨rfl, rfl⟩
      rw [offerF, if_neg hlt]
      exact ⟨rfl, Keep.refl _ _, vb, vk, h1, h2, h3⟩

set_option maxRecDepth 100000 in
set_option maxHeartbeats 1000000 in
theorem years_leaf {n nb sb kb ab gb : Nat} {all : List (List Int)} {sums : List Int} (hn : n ≤ 4) (hsl : sums.length = all.length) : YearsOK n nb sb kb ab gb all sums 0 := by
  intro W ys vy ks hE hK hy hv hlen
  have hyn : ys.length ≤ 4 := by omega
  have b1 : ((ys.length : Int) == (n : Int)) = true := by simp; omega
  have hkl := hK.lt
  obtain ⟨ay, cy, rfl, _, _⟩ := hy.shape
  have c1 := hE.bn.cell 0
  have HV := Lib.hid hv
  have HLEN := Lib.hid hlen
  have HSL := Lib.hid hsl
  clear hv hlen hsl
  go_enter Tryz.func51, Tryz.ntmps51
  go_wp2_with fail
  clear c1 b1
  go_loopw [7, 19] (fun o i wr => ∃ k : Nat, k ≤ ys.length ∧ i = .int .i64 k ∧ Own W.heap.size wr 3 1 o k (I64 ((ys.map (sumAt sums)).take k)) ∧ Below W.heap.size W wr) (fun _ i _ => ys.length - (intOf i).toNat)
  case atStart => exact ⟨0, Nat.zero_le _, rfl, Own.nil, Below.refl _ _⟩
  case round =>
    obtain ⟨k, hk, rfl, ho, hB⟩ := hrel
    have hEr := hE.keep (Keep.call hB)
    have hyr := hy.call hB
    have hsz := hB.size
    by_cases hlt : k < ys.length
    · obtain ⟨by1, oy1, rfl, -, -, -⟩ := hyr.addr (by omega)
      have e1 := hyr.cell k hlt
      have hyv := HV.out ys[k] (List.getElem_mem hlt)
      obtain ⟨y, hye⟩ : ∃ y : Nat, ys[k] = (y : Int) := ⟨ys[k].toNat, by omega⟩
      rw [hye] at e1 hyv
      have hys : y < sums.length := by have := HSL.out; omega
      obtain ⟨vs, hs1, hs2⟩ := hEr.bs
      obtain ⟨as1, cs1, rfl, _, _⟩ := hs2.shape
      obtain ⟨bs1, os1, rfl, -, -, -⟩ := hs2.addr (by omega)
      have e2 := hs2.cell y hys
      have c2 := hs1.cell 0
      have nsl := hs2.len
      have hsn : (ys.map (sumAt sums)).take (k + 1) = (ys.map (sumAt sums)).take k ++ [sums[y]] := by
        rw [List.take_succ_eq_append_getElem (by simpa using hlt), List.getElem_map, hye, sumAt]
        simp [hys]
      have HS := Lib.hid hsn
      obtain ⟨x, hx⟩ : ∃ x, x = sums[y] := ⟨_, rfl⟩
      rw [← hx] at e2
      have HX := Lib.hid hx
      clear hsn hye hx
      have ho' := Own.alloc ho (.cells #[.int .i64 x] 3)
      have ha := arr_one wr 3 (.int .i64 x)
      go_wp2_with (at_builtin; refine wpList_append_arr rfl _ _ 22 rfl 3 (.int .i64 0) 1 8 Tryz.underlying22 Tryz.info3 rfl (by decide) (by decide) (by simp; omega) ho' rfl ha rfl rfl (one_int _) (by omega) ?_; intro v' w' hown hT)
      go_roundw
      case rel =>
        refine ⟨k + 1, by omega, by go_num, ?_, hT.below ho' (hB.alloc (by omega) _) (by simp; omega)⟩
        rw [HS.out, I64_append, ← HX.out]
        exact hown
      case measure => simp [intOf]; omega
    · obtain rfl : k = ys.length := by omega
      have hml : (ys.map (sumAt sums)).length = ys.length := by simp
      rw [List.take_of_length_le (by omega)] at ho
      have hcl := clone_c hyr (by omega)
      have HC := Lib.hid hcl
      clear hml hcl
      go_wp2_with fail
      refine HC.out.mono ?_
      rintro e w2 ⟨v2, rfl, hv2, hB2⟩
      have ho2 := Own.call ho hB2
      have hy2 := hyr.call hB2
      have hs2 := hB2.size
      go_wp2_with (at_builtin; refine wpList_append_arr rfl _ _ 22 rfl 3 (.int .i64 0) 1 8 Tryz.underlying22 Tryz.info3 rfl (by decide) (by decide) (by omega) ho2 rfl hy2 rfl (by rw [I64_len, Nat.mul_one]) (ints_one ys) (by omega) ?_; intro v3 w3 ho3 hT3)
      have hB3 : Below W.heap.size W w3 := hT3.below ho2 (hB.trans (hB2.mono (by omega))) (by omega)
      have hx3 : Ints (fun k => k ≠ kb) w3 v2 ys := (hv2.step hT3.size fun k hk hl => hT3.block k hl (fun e => by have := (ho.lt k e).2; omega)).wide fun k hk _ => by omega
      have hk3 : Ints (fun k => k ≠ kb) w3 v3 (keyF sums ys) := by
        have h1 : Own W.heap.size w3 3 1 v3 (ys.length + ys.length) (I64 (keyF sums ys)) := by rw [keyF, I64_append]; exact ho3
        exact (Own.ints h1).wide fun b hb _ => by omega
      have hoff := offer_c (hK.call hB3) hx3 hk3
      have HO := Lib.hid hoff
      clear hoff
      go_wp2_with fail
      refine HO.out.mono ?_
      rintro e w4 ⟨rfl, hKp, hks⟩
      go_wp2
      refine bodyPost_ret (results_none rfl _ _ _) rfl ?_
      exact ⟨rfl, (Keep.call hB3).trans hKp, hks⟩

end Go.Proofs.YtmlikgjfpmjdcaaGreatDoor

/- The contract of Fair's grow, the step; conditions: at most four villages, at most 24 divisions. -/
namespace Go.Proofs.YtmlikgjfpmjdcaaGreatDoor
open Go.RowKit

theorem Ints.trim {A : Nat → Prop} {w : World} {ao : Option Addr} {n cap : Nat} {l : List Int} (h : Ints A w (.slice ao n cap) l) : Ints A w (.slice ao l.length l.length) l := by
  obtain ⟨ao', cap', e, h1, h2, h3⟩ := h
  cases e
  exact ⟨_, _, rfl, Nat.le_refl _, ⟨by have := h2.1; omega, fun e => by have := h2.2 e; omega⟩, h3⟩

set_option maxRecDepth 100000 in
set_option maxHeartbeats 2000000 in
theorem years_step {n nb sb kb ab gb r : Nat} {all : List (List Int)} {sums : List Int} (hn : n ≤ 4) (hal : all.length ≤ 24) (hrow : ∀ l ∈ all, l.length = n) (hIH : YearsOK n nb sb kb ab gb all sums r) : YearsOK n nb sb kb ab gb all sums (r + 1) := by
  intro W ys vy ks hE hK hy hv hlen
  have hyn : ys.length ≤ 3 := by omega
  have b1 : ((ys.length : Int) == (n : Int)) = false := by simp; omega
  obtain ⟨ay, cy, rfl, hcy, hcm⟩ := hy.shape
  have c1 := hE.bn.cell 0
  obtain ⟨va, ha1, ha2⟩ := hE.ba
  obtain ⟨aa, ca, rfl, _, _⟩ := ha2.shape
  have c2 := ha1.cell 0
  have na := ha2.len
  have HV := Lib.hid hv
  have HLEN := Lib.hid hlen
  have HROW := Lib.hid hrow
  have HIH := Lib.hid hIH
  clear hv hlen hrow hIH
  have hmf : ∀ (fn : Fn) (first cap : Array Value) (w : World), (Instr.makeFunc fn first cap).run Tryz.prog w = .ok (.func fn first cap) w := fun _ _ _ _ => rfl
  go_enter Tryz.func51, Tryz.ntmps51
  go_wp2_with fail
  clear c1 b1 c2
  go_loopw [39] (fun i wr => ∃ k : Nat, k ≤ all.length ∧ i = .int .i64 k ∧ Keep (fun k => k = kb) W wr ∧ KS kb (growTo all sums r ys ks k) wr) (fun i _ => all.length - (intOf i).toNat)
  case atStart => exact ⟨0, Nat.zero_le _, rfl, Keep.refl _ _, by rw [growTo_zero]; exact hK⟩
  case round =>
    obtain ⟨k, hk, rfl, hKp, hKSr⟩ := hrel
    have hEr := hE.keep hKp
    have hyr := hy.keep hKp
    by_cases hlt : k < all.length
    · have har := ha2.keep hKp
      obtain ⟨ba, oa, rfl, -, -⟩ := har.addr (by omega)
      obtain ⟨pd, cd, g1, i1⟩ := har.row k hlt
      have hgs := growTo_succ all sums r ys ks k
      have hget : all.getD k [] = all[k] := by simp [hlt]
      rw [fitsY, hget] at hgs
      have hdl : all[k].length = n := HROW.out _ (List.getElem_mem hlt)
      obtain ⟨d, hd⟩ : ∃ d, d = all[k] := ⟨_, rfl⟩
      rw [← hd] at g1 i1 hgs hdl
      have har1 := ha1.keep (hKp.block _ ha1.lt hE.n3)
      have hal2 := har1.alloc (.cells #[.slice pd d.length cd] 22)
      have hcf := contains_f hal2 (har.call ((Below.refl _ wr).alloc (Nat.le_refl _) (.cells #[.slice pd d.length cd] 22))) (Blk.new wr #[.slice pd d.length cd] 22) (i1.call ((Below.refl _ wr).alloc (Nat.le_refl _) (.cells #[.slice pd d.length cd] 22))) (hyr.call ((Below.refl _ wr).alloc (Nat.le_refl _) (.cells #[.slice pd d.length cd] 22))) HV.out (fun l hl => by rw [HROW.out l hl, hdl]; exact Nat.le_refl _)
      have c3 := hEr.bg.cell 0
      have hKpd : Keep (fun k => k = kb) W (wr.alloc (.cells #[.slice pd d.length cd] 22)) := hKp.trans (Keep.alloc _ _)
      have hKSd := hKSr.call ((Below.refl _ wr).alloc (Nat.le_refl _) (.cells #[.slice pd d.length cd] 22))
      have HD := Lib.hid hd
      have HDL := Lib.hid hdl
      clear hd hdl hget hal2
      cases hb : ys.any (clashY all d) with
      | true =>
        rw [hb] at hcf hgs
        have HG := Lib.hid hgs
        have HCF := Lib.hid hcf
        clear hgs hcf hb
        go_wp2_with (go_at_call 54; refine HCF.out.mono ?_; rintro e w1 ⟨rfl, hw1⟩; obtain rfl := hw1)
        go_roundw
        case rel => exact ⟨k + 1, by omega, by go_num, hKpd, by rw [HG.out]; exact hKSd⟩
        case measure => simp [intOf]; omega
      | false =>
        rw [hb] at hcf hgs
        have HG := Lib.hid hgs
        have HCF := Lib.hid hcf
        clear hgs hcf hb
        go_wp2_with (go_at_call 54; refine HCF.out.mono ?_; rintro e w1 ⟨rfl, hw1⟩; obtain rfl := hw1)
        have hyd := hyr.call ((Below.refl _ wr).alloc (Nat.le_refl _) (.cells #[.slice pd d.length cd] 22))
        have hEd := hEr.keep (Keep.call ((Below.refl _ wr).alloc (Nat.le_refl _) (.cells #[.slice pd d.length cd] 22)))
        have hdz : wr.heap.size < (wr.alloc (.cells #[.slice pd d.length cd] 22)).heap.size := by simp
        generalize wr.alloc (.cells #[.slice pd d.length cd] 22) = wd at hKpd hKSd hyd hEd HCF hdz ⊢
        have hS0 := (show Blk gb _ 72 wd.drew from hEd.bg)
        have hyn' : (ys.length : Int) ≤ cy := by omega
        clear c3 HCF
        refine wp_region_mix (.one 0 (.pur 1 (.pur 2 (.pur 3 (.pur 4 (.pur 5 (.pur 6 (.pur 7 (.act 8 (.act 9 (.act 10 .fin))))))))))) 10 (Blk gb #[.func (.func 51) #[] #[.pointer (some ⟨nb, 0, none⟩), .pointer (some ⟨sb, 0, none⟩), .pointer (some ⟨kb, 0, none⟩), .pointer (some ⟨ab, 0, none⟩), .pointer (some ⟨gb, 0, none⟩)]] 72) (fun _ => True) (by kernel_rfl) (by kernel_rfl) rfl (by kernel_rfl) hS0 (fun w1 hq1 hS1 => ?_)
        have hy1 := hyd.qt hq1
        have hz1 : wd.heap.size ≤ w1.heap.size := by rw [hq1.size]; exact Nat.le_refl _
        refine mix_load rfl rfl rfl (.func (.func 51) #[] #[.pointer (some ⟨nb, 0, none⟩), .pointer (some ⟨sb, 0, none⟩), .pointer (some ⟨kb, 0, none⟩), .pointer (some ⟨ab, 0, none⟩), .pointer (some ⟨gb, 0, none⟩)]) (fun w' h => by have h : (Blk gb #[.func (.func 51) #[] #[.pointer (some ⟨nb, 0, none⟩), .pointer (some ⟨sb, 0, none⟩), .pointer (some ⟨kb, 0, none⟩), .pointer (some ⟨ab, 0, none⟩), .pointer (some ⟨gb, 0, none⟩)]] 72) w' := h; have h := h.cell 0; go_simp) rfl ?_
        refine mix_pur rfl (fun K hK => ?_)
        go_simp
        first | refine ⟨_, fun _ => rfl, hK _ ?_⟩ | refine hK _ ?_
        clear hK K
        refine mix_pur rfl (fun K hK => ?_)
        go_simp
        first | refine ⟨_, fun _ => rfl, hK _ ?_⟩ | refine hK _ ?_
        clear hK K
        refine mix_pur rfl (fun K hK => ?_)
        go_simp
        first | refine ⟨_, fun _ => rfl, hK _ ?_⟩ | refine hK _ ?_
        clear hK K
        refine mix_pur rfl (fun K hK => ?_)
        go_simp
        first | refine ⟨_, fun _ => rfl, hK _ ?_⟩ | refine hK _ ?_
        clear hK K
        refine mix_pur rfl (fun K hK => ?_)
        go_simp
        first | refine ⟨_, fun _ => rfl, hK _ ?_⟩ | refine hK _ ?_
        clear hK K
        refine mix_pur rfl (fun K hK => ?_)
        go_simp
        first | refine ⟨_, fun _ => rfl, hK _ ?_⟩ | refine hK _ ?_
        clear hK K
        refine mix_pur rfl (fun K hK => ?_)
        go_simp
        first | refine ⟨_, fun _ => rfl, hK _ ?_⟩ | refine hK _ ?_
        clear hK K
        refine mix_eff rfl false rfl (fun K hK => ?_)
        go_simp
        refine hK _ _ (hS1.alloc _) ?_
        clear hK K
        refine mix_eff rfl false rfl (fun K hK => ?_)
        refine step_append_full rfl _ _ rfl (hy1.trim.call ((Below.refl _ w1).alloc (Nat.le_refl _) (.cells #[.int .i64 (k : Int)] 3))) (by omega) rfl (c := 1) rfl (x := (k : Int)) ((blk_at rfl #[.int .i64 (k : Int)] 3).cell 0) (fun v3 w3 ho3 hB3 => ?_)
        have hS3 := (hS1.alloc (.cells #[.int .i64 (k : Int)] 3)).call hB3
        refine hK _ _ hS3 ?_
        clear hK K
        refine mix_eff rfl true rfl (fun K hK => ?_)
        go_simp
        have hyo : Ints (fun k => k ≠ kb) w3 v3 (ys ++ [(k : Int)]) := by
          have h1 := (Own.ints (n := ys.length + 1) ho3)
          exact h1.wide fun b hb _ => by have := hKSr.lt; simp at hb; omega
        have hBw : Below wd.heap.size wd w3 := ((hq1.below _).alloc (by rw [hq1.size]; exact Nat.le_refl _) (.cells #[.int .i64 (k : Int)] 3)).trans (hB3.mono (by rw [World.size_alloc, hq1.size]; omega))
        have hcall := HIH.out w3 (ys ++ [(k : Int)]) v3 _ (hEd.keep (Keep.call hBw)) (hKSd.call hBw) hyo (by
          intro y hy
          rcases List.mem_append.1 hy with h | h
          · exact HV.out y h
          · rw [List.mem_singleton] at h; subst h; omega) (by rw [List.length_append]; have := HLEN.out; simp; omega)
        have HC := Lib.hid hcall
        clear hcall
        refine HC.out.mono ?_
        rintro e w4 ⟨rfl, hKp4, hks4⟩
        refine hK _ _ trivial ?_
        clear hK K
        refine mix_done ?_
        go_wp2
        go_roundw
        case rel => exact ⟨k + 1, by omega, by go_num, (hKpd.trans (Keep.call hBw)).trans hKp4, by rw [HG.out]; exact hks4⟩
        case measure => simp [intOf]; omega
    · obtain rfl : k = all.length := by omega
      go_wp2
      go_end0
      exact ⟨rfl, hKp, hKSr⟩

end Go.Proofs.YtmlikgjfpmjdcaaGreatDoor

/- What the loop over divisions in Fair keeps; conditions: as said. -/
namespace Go.Proofs.YtmlikgjfpmjdcaaGreatDoor
open Go.RowKit

/-- What the work and the number of villages lie in. -/
structure RegF (B bw b5 b6 : Nat) (vm vv : Value) (n : Nat) (w : World) : Prop where
  l1 : B ≤ bw
  l2 : B ≤ b5
  l3 : B ≤ b6
  ww : Blk bw #[vm, vv] 93 w
  w5 : Blk b5 #[.pointer (some ⟨bw, 0, none⟩)] 85 w
  w6 : Blk b6 #[.int .i64 n] 3 w
theorem RegF.keep {B bw b5 b6 : Nat} {vm vv : Value} {n : Nat} {w w' : World} (h : RegF B bw b5 b6 vm vv n w) (hb : ∀ k, k = bw ∨ k = b5 ∨ k = b6 → w'.heap[k]? = w.heap[k]?) : RegF B bw b5 b6 vm vv n w' :=
  ⟨h.l1, h.l2, h.l3, h.ww.keep (hb _ (.inl rfl)), h.w5.keep (hb _ (.inr (.inl rfl))), h.w6.keep (hb _ (.inr (.inr rfl)))⟩

/-- Rows of a slice that lie apart from a slice of slices. -/
def Rows2 (A : Nat → Prop) (w : World) (rs : List Value) (g : List (List Int)) : Prop := rs.length = g.length ∧ ∀ i (a : i < rs.length) (b : i < g.length), Ints A w rs[i] g[i]
theorem Rows2.step {A A' : Nat → Prop} {w w' : World} {rs : List Value} {g : List (List Int)} (h : Rows2 A w rs g) (hs : w.heap.size ≤ w'.heap.size) (hb : ∀ k, A k → k < w.heap.size → w'.heap[k]? = w.heap[k]? ∧ A' k) : Rows2 A' w' rs g :=
  ⟨h.1, fun i a b => ((h.2 i a b).wide (A' := fun k => A k ∧ k < w.heap.size) fun _ hk hl => ⟨hk, hl⟩).step hs (fun k hk hl => (hb k hk.1 hl).1) |>.wide fun k hk _ => (hb k hk.1 hk.2).2⟩
theorem Rows2.snoc {A : Nat → Prop} {w : World} {rs : List Value} {g : List (List Int)} {v : Value} {x : List Int} (h : Rows2 A w rs g) (hv : Ints A w v x) : Rows2 A w (rs ++ [v]) (g ++ [x]) := by
  refine ⟨by simp [h.1], fun i a b => ?_⟩
  by_cases hi : i < rs.length
  · rw [List.getElem_append_left hi, List.getElem_append_left (by have := h.1; omega)]
    exact h.2 i hi (by have := h.1; omega)
  · have hie : i = rs.length := by simp at a; omega
    subst hie
    have e1 : (rs ++ [v])[rs.length] = v := by simp
    have e2 : (g ++ [x])[rs.length] = x := by simp [h.1]
    rw [e1, e2]
    exact hv

/-- What the loop keeps. -/
structure FI (w : World) (B : Nat) (vm vv : Value) (c : Com) (bw b5 b6 b7 : Nat) (own : Nat → Prop) (pre : List (List Int)) (W : World) : Prop where
  bel : Below w.heap.size w W
  reg : RegF B bw b5 b6 vm vv c.villages.length W
  wb : w.heap.size ≤ B
  m1 : bw < b7
  m2 : b5 < b7
  m3 : b6 < b7
  low : ∀ k, k < b7 + 3 → k ≠ b7 + 2 → own k
  lt : ∀ k, own k → k < W.heap.size
  big : b7 + 3 ≤ W.heap.size
  st : ∃ va vsl rs, Blk b7 #[va] 48 W ∧ Blk (b7 + 1) #[vsl] 22 W ∧ Own (b7 + 3) W 22 1 va pre.length rs ∧
    Rows2 (fun k => B ≤ k ∧ own k ∧ va.ownBlock ≠ some k ∧ vsl.ownBlock ≠ some k ∧ k ≠ b7 ∧ k ≠ b7 + 1) W rs pre ∧
    Own (b7 + 3) W 3 1 vsl pre.length (I64 (pre.map (envySum c.villages))) ∧ (∀ k, va.ownBlock = some k → own k ∧ vsl.ownBlock ≠ some k) ∧ (∀ k, vsl.ownBlock = some k → own k)

theorem FI.side (w : World) (B : Nat) (vm vv : Value) (c : Com) (bw b5 b6 b7 : Nat) : Side (FI w B vm vv c bw b5 b6 b7) := by
  refine ⟨fun own pre W h => h.lt, fun own pre W W' h hk => ?_⟩
  have ho : ∀ k, own k → W'.heap[k]? = W.heap[k]? := fun k hko => hk.block k (h.lt k hko) (fun hn => hn hko)
  obtain ⟨va, vsl, rs, h1, h2, h3, h4, h5, h6, h7⟩ := h.st
  have hwb := h.wb
  have l1 := h.reg.l1
  have hm := h.m1
  refine ⟨h.bel.trans ⟨hk.os, hk.tape, hk.output, hk.size, fun k hkw => ho k (h.low k (by omega) (by omega))⟩, h.reg.keep fun k hkk => ho k ?_, h.wb, h.m1, h.m2, h.m3, h.low, fun k hko => Nat.lt_of_lt_of_le (h.lt k hko) hk.size, Nat.le_trans h.big hk.size, va, vsl, rs,
    h1.keep (ho _ (h.low _ (by omega) (by omega))), h2.keep (ho _ (h.low _ (by omega) (by omega))), h3.step fun k e _ _ => ho k (h6 k e).1, h4.step hk.size fun k hkk _ => ⟨ho k hkk.2.1, hkk⟩, h5.step fun k e _ _ => ho k (h7 k e), h6, h7⟩
  have := h.m2
  have := h.m3
  rcases hkk with rfl | rfl | rfl
  · exact h.low _ (by omega) (by omega)
  · exact h.low _ (by omega) (by omega)
  · exact h.low _ (by omega) (by omega)

/-- A division more. -/
theorem fi_push {w : World} {B : Nat} {vm vv : Value} {c : Com} {bw b5 b6 b7 h : Nat} {own : Nat → Prop} {pre : List (List Int)} {x : List Int} {v va vsl va' vsl' : Value} {rs : List Value} {W w1 w3 w4 w5 : World}
    (hF : FI w B vm vv c bw b5 b6 b7 own pre W) (hoh : ∀ k, own k → k < h) (hh : h ≤ W.heap.size) (hv : Ints (fun k => h ≤ k) W v x)
    (h1 : Blk b7 #[va] 48 W) (h2 : Blk (b7 + 1) #[vsl] 22 W) (h3 : Own (b7 + 3) W 22 1 va pre.length rs)
    (h4 : Rows2 (fun k => B ≤ k ∧ own k ∧ va.ownBlock ≠ some k ∧ vsl.ownBlock ≠ some k ∧ k ≠ b7 ∧ k ≠ b7 + 1) W rs pre)
    (h5 : Own (b7 + 3) W 3 1 vsl pre.length (I64 (pre.map (envySum c.villages)))) (h6 : ∀ k, va.ownBlock = some k → own k ∧ vsl.ownBlock ≠ some k) (h7 : ∀ k, vsl.ownBlock = some k → own k)
    (hq : Qt W w1) (hT3 : Turned (w1.alloc (.cells #[v] 22)) w3 va va') (ho3 : Own (b7 + 3) w3 22 1 va' (pre.length + 1) (rs ++ [v])) (hB4 : Below w3.heap.size w3 w4)
    (hT5 : Turned (w4.alloc (.cells #[.int .i64 (envySum c.villages x)] 3)) w5 vsl vsl') (ho5 : Own (b7 + 3) w5 3 1 vsl' (pre.length + 1) (I64 (pre.map (envySum c.villages)) ++ [.int .i64 (envySum c.villages x)])) :
    Keep own W ((w5.setCell ⟨b7, 0, none⟩ va').setCell ⟨b7 + 1, 0, none⟩ vsl') ∧
    FI w B vm vv c bw b5 b6 b7 (fun k => own k ∨ (h ≤ k ∧ k < ((w5.setCell ⟨b7, 0, none⟩ va').setCell ⟨b7 + 1, 0, none⟩ vsl').heap.size)) (pre ++ [x]) ((w5.setCell ⟨b7, 0, none⟩ va').setCell ⟨b7 + 1, 0, none⟩ vsl') := by
  have z1 : w1.heap.size = W.heap.size := hq.size
  have z3 : W.heap.size + 1 ≤ w3.heap.size := by have := hT3.size; simp at this; omega
  have z4 := hB4.size
  have z5 : w4.heap.size + 1 ≤ w5.heap.size := by have := hT5.size; simp at this; omega
  have z6 : ((w5.setCell ⟨b7, 0, none⟩ va').setCell ⟨b7 + 1, 0, none⟩ vsl').heap.size = w5.heap.size := by simp [World.setCell]
  have hb7 : own b7 := hF.low _ (by omega) (by omega)
  have hb8 : own (b7 + 1) := hF.low _ (by omega) (by omega)
  have hh7 := hoh _ hb7
  have hh8 := hoh _ hb8
  have hbig : B ≤ h := by have := hF.reg.l1; have := hF.m1; omega
  have pa : ∀ k, va'.ownBlock = some k → va.ownBlock = some k ∨ (W.heap.size ≤ k ∧ k < w3.heap.size) := fun k e => by
    rcases hT3.place with e1 | e1
    · exact .inl (e1 ▸ e)
    · have hl := (ho3.lt k e).2
      rw [e1] at e; injection e with e; simp at e; exact .inr ⟨by omega, hl⟩
  have ps : ∀ k, vsl'.ownBlock = some k → vsl.ownBlock = some k ∨ (w4.heap.size ≤ k ∧ k < w5.heap.size) := fun k e => by
    rcases hT5.place with e1 | e1
    · exact .inl (e1 ▸ e)
    · have hl := (ho5.lt k e).2
      rw [e1] at e; injection e with e; simp at e; exact .inr ⟨by omega, hl⟩
  have hold : ∀ k, k < W.heap.size → va.ownBlock ≠ some k → vsl.ownBlock ≠ some k → k ≠ b7 → k ≠ b7 + 1 → ((w5.setCell ⟨b7, 0, none⟩ va').setCell ⟨b7 + 1, 0, none⟩ vsl').heap[k]? = W.heap[k]? := fun k hk e1 e2 e3 e4 => by
    rw [Below.heap_setCell _ _ _ k e4, Below.heap_setCell _ _ _ k e3, hT5.block k (by simp; omega) e2, Below.heap_alloc _ _ k (by omega), hB4.block k (by omega), hT3.block k (by simp; omega) e1, Below.heap_alloc _ _ k (by omega), hq.heap]
  have hkeep : Keep own W ((w5.setCell ⟨b7, 0, none⟩ va').setCell ⟨b7 + 1, 0, none⟩ vsl') := by
    refine ⟨?_, ?_, ?_, by omega, fun k hk hn => hold k hk (fun e => hn (h6 k e).1) (fun e => hn (h7 k e)) (fun e => hn (e ▸ hb7)) (fun e => hn (e ▸ hb8))⟩
    · exact hT5.os.trans (hB4.os.trans (hT3.os.trans (hq.below 0).os))
    · exact hT5.tape.trans (hB4.tape.trans (hT3.tape.trans (hq.below 0).tape))
    · exact hT5.output.trans (hB4.output.trans (hT3.output.trans (hq.below 0).output))
  refine ⟨hkeep, ?_⟩
  have n1 := h3.lt
  have n2 := h5.lt
  have hwb := hF.wb
  have l1 := hF.reg.l1
  have m1 := hF.m1
  have m2 := hF.m2
  have m3 := hF.m3
  have hlow : ∀ k, k < b7 → ((w5.setCell ⟨b7, 0, none⟩ va').setCell ⟨b7 + 1, 0, none⟩ vsl').heap[k]? = W.heap[k]? := fun k hk =>
    hold k (by have := hF.lt _ hb7; omega) (fun e => by have := (n1 k e).1; omega) (fun e => by have := (n2 k e).1; omega) (by omega) (by omega)
  refine ⟨hF.bel.trans ⟨hkeep.os, hkeep.tape, hkeep.output, hkeep.size, fun k hk => hlow k (by omega)⟩, hF.reg.keep (fun k hk => hlow k (by rcases hk with rfl | rfl | rfl <;> omega)), hF.wb, hF.m1, hF.m2, hF.m3, fun k h1 h2 => .inl (hF.low k h1 h2), fun k hk => ?_, Nat.le_trans hF.big hkeep.size,
    va', vsl', rs ++ [v], ?_, ?_, ?_, ?_, ?_, ?_, ?_⟩
  · rcases hk with hk | hk
    · exact Nat.lt_of_lt_of_le (hF.lt k hk) hkeep.size
    · exact hk.2
  · have e := ((hB4.block b7 (by omega)).trans ((hT3.block b7 (by simp; omega) (fun e => by have := (n1 _ e).1; omega)).trans ((Below.heap_alloc w1 _ b7 (by omega)).trans (by rw [hq.heap]))))
    have e5 := (hT5.block b7 (by simp; omega) (fun e => by have := (n2 _ e).1; omega)).trans ((Below.heap_alloc w4 _ b7 (by omega)).trans e)
    exact ((h1.keep e5).set 0 va').other (a := ⟨b7 + 1, 0, none⟩) (by simp) _
  · have e := ((hB4.block (b7 + 1) (by omega)).trans ((hT3.block (b7 + 1) (by simp; omega) (fun e => by have := (n1 _ e).1; omega)).trans ((Below.heap_alloc w1 _ (b7 + 1) (by omega)).trans (by rw [hq.heap]))))
    have e5 := (hT5.block (b7 + 1) (by simp; omega) (fun e => by have := (n2 _ e).1; omega)).trans ((Below.heap_alloc w4 _ (b7 + 1) (by omega)).trans e)
    exact ((h2.keep e5).other (a := ⟨b7, 0, none⟩) (by simp) _).set 0 vsl'
  · rw [List.length_append]
    refine ho3.step fun k e hk hl => ?_
    have hvn : vsl.ownBlock ≠ some k := fun e2 => by
      rcases pa k e with e3 | e3
      · exact (h6 k e3).2 e2
      · have := (n2 k e2).2; omega
    rw [Below.heap_setCell _ _ _ k (by simp; omega), Below.heap_setCell _ _ _ k (by simp; omega), hT5.block k (by simp; omega) hvn, Below.heap_alloc _ _ k (by omega), hB4.block k (by omega)]
  · refine Rows2.snoc (h4.step hkeep.size fun k hk hl => ⟨hold k hl hk.2.2.1 hk.2.2.2.1 hk.2.2.2.2.1 hk.2.2.2.2.2, hk.1, .inl hk.2.1, fun e => ?_, fun e => ?_, hk.2.2.2.2.1, hk.2.2.2.2.2⟩) ?_
    · rcases pa k e with e1 | e1
      · exact hk.2.2.1 e1
      · omega
    · rcases ps k e with e1 | e1
      · exact hk.2.2.2.1 e1
      · omega
    · have hva : ∀ k, h ≤ k → va.ownBlock ≠ some k := fun k hk e => by have := hoh k (h6 k e).1; omega
      have hvs : ∀ k, h ≤ k → vsl.ownBlock ≠ some k := fun k hk e => by have := hoh k (h7 k e); omega
      refine ((hv.wide (A' := fun k => h ≤ k ∧ k < W.heap.size) fun k hk hl => ⟨hk, hl⟩).step (w' := (w5.setCell ⟨b7, 0, none⟩ va').setCell ⟨b7 + 1, 0, none⟩ vsl') (by omega) fun k hk hl => hold k hl (hva k hk.1) (hvs k hk.1) (by omega) (by omega)).wide fun k hk _ => ⟨by omega, .inr ⟨hk.1, by omega⟩, fun e => ?_, fun e => ?_, by omega, by omega⟩
      · rcases pa k e with e1 | e1
        · exact hva k hk.1 e1
        · omega
      · rcases ps k e with e1 | e1
        · exact hvs k hk.1 e1
        · omega
  · rw [List.length_append, List.map_append, I64_append]
    exact ho5.step fun k e hk hl => by rw [Below.heap_setCell _ _ _ k (by simp; omega), Below.heap_setCell _ _ _ k (by simp; omega)]
  · intro k e
    refine ⟨?_, fun e2 => ?_⟩
    · rcases pa k e with e1 | e1
      · exact .inl (h6 k e1).1
      · exact .inr ⟨by omega, by omega⟩
    · rcases pa k e with e1 | e1 <;> rcases ps k e2 with e3 | e3
      · exact (h6 k e1).2 e3
      · have := (n1 k e1).2; omega
      · have := (n2 k e3).2; omega
      · omega
  · intro k e
    rcases ps k e with e1 | e1
    · exact .inl (h7 k e1)
    · exact .inr ⟨by omega, by omega⟩

end Go.Proofs.YtmlikgjfpmjdcaaGreatDoor

/- Fair in plain words: the years that it finds; conditions: none. -/
namespace Go.Proofs.YtmlikgjfpmjdcaaGreatDoor
open Go.RowKit

theorem own_shape2 {B : Nat} {w : World} {e : TypeId} {sz : Nat} {v : Value} {n : Nat} {xs : List Value} (h : Own B w e sz v n xs) (hn : 0 < n) : ∃ g cap, v = .slice (some ⟨g, 0, none⟩) n cap := by
  rcases h.2 with ⟨rfl, h0⟩ | ⟨g, cap, cur, rfl, _⟩
  · omega
  · exact ⟨g, cap, rfl⟩
theorem Own.arr2 {B : Nat} {w : World} {e : TypeId} {sz : Nat} {v : Value} {n : Nat} {xs : List Value} (h : Own B w e sz v n xs) : Arr (fun k => v.ownBlock = some k ∧ B ≤ k) w v n xs := by
  have h0 := Own.arr h
  obtain ⟨hl, h1⟩ := h
  rcases h1 with ⟨rfl, rfl⟩ | ⟨g, cap, cur, rfl, hb, hg, hc, hm, hs, ht⟩
  · exact ⟨none, 0, rfl, by omega, ⟨by unfold maxLen; omega, fun _ => rfl⟩, .inl (List.length_eq_zero_iff.1 (by simpa using hl))⟩
  · obtain ⟨ao, cap', hv, a1, a2, a3⟩ := h0
    injection hv with e1 e2 e3
    subst e1 e3
    refine ⟨_, _, rfl, a1, a2, a3.imp id ?_⟩
    rintro ⟨b, off, e, hB, hlt, hcell⟩
    injection e with e
    injection e with e1 e2
    subst e1 e2
    exact ⟨_, _, rfl, ⟨rfl, hB⟩, hlt, hcell⟩
theorem exts_row (n : Nat) : ∀ (r : Nat) (cur x : List Int), x ∈ exts n r cur → x.length = cur.length + r
  | 0, cur, x, h => by rw [exts, List.mem_singleton] at h; subst h; rfl
  | r + 1, cur, x, h => by
    rw [exts, List.mem_flatMap] at h
    obtain ⟨m, _, h⟩ := h
    split at h
    · cases h
    · have := exts_row n r _ x h
      rw [List.length_append, List.length_singleton] at this
      omega
theorem divs_row {n : Nat} {x : List Int} (h : x ∈ divs n) : x.length = n := by have := exts_row n n [] x h; simpa using this
theorem divs_len : ∀ n, n ≤ 4 → (divs n).length ≤ 24 := by
  intro n hn
  have h : n = 0 ∨ n = 1 ∨ n = 2 ∨ n = 3 ∨ n = 4 := by omega
  rcases h with rfl | rfl | rfl | rfl | rfl <;> decide +kernel

def bestOf (ks : Option (List Int × List Int)) : List Int := match ks with | some (b, _) => b | none => []
theorem KS.best {kb : Nat} {ks : Option (List Int × List Int)} {W : World} (h : KS kb ks W) : ∃ vb vk s, Blk kb #[vb, vk, .bool s] 105 W ∧ Ints (fun k => k ≠ kb) W vb (bestOf ks) := by
  obtain ⟨vb, vk, h⟩ := h
  cases ks with
  | none => exact ⟨_, _, _, h, ints_nil _ _⟩
  | some p => exact ⟨vb, vk, true, h.1, h.2.1⟩

def okY (n : Nat) (l : List Int) : Prop := ∀ y ∈ l, 0 ≤ y ∧ y < (n : Int)
theorem offerF_ok {n : Nat} {sums : List Int} {ks : Option (List Int × List Int)} {ys : List Int} (h : okY n (bestOf ks)) (hy : okY n ys) : okY n (bestOf (offerF sums ks ys)) := by
  cases ks with
  | none => exact hy
  | some p =>
    obtain ⟨b, k⟩ := p
    rw [offerF]
    split
    · exact hy
    · exact h
theorem growF_ok {all : List (List Int)} {sums : List Int} : ∀ (r : Nat) (ys : List Int) (ks : Option (List Int × List Int)), okY all.length (bestOf ks) → okY all.length ys → okY all.length (bestOf (growF all sums r ys ks))
  | 0, ys, ks, h, hy => offerF_ok h hy
  | r + 1, ys, ks, h, hy => by
    have : ∀ k, k ≤ all.length → okY all.length (bestOf (growTo all sums r ys ks k)) := by
      intro k
      induction k with
      | zero => intro _; exact h
      | succ k ih =>
        intro hk
        rw [growTo_succ]
        split
        · refine growF_ok r _ _ (ih (by omega)) fun y hy' => ?_
          rcases List.mem_append.1 hy' with h | h
          · exact hy y h
          · rw [List.mem_singleton] at h; subst h; omega
        · exact ih (by omega)
    exact this all.length (Nat.le_refl _)

def sumsF (c : Com) : List Int := (divs c.villages.length).map (envySum c.villages)
def yearsF (c : Com) : List Int := bestOf (growF (divs c.villages.length) (sumsF c) c.villages.length [] none)
def fairF (c : Com) : List (List Int) := (yearsF c).map fun y => (divs c.villages.length).getD y.toNat []
theorem yearsF_ok (c : Com) : okY (divs c.villages.length).length (yearsF c) := growF_ok _ _ _ (fun y h => by simp [bestOf] at h) (fun y h => by simp at h)

theorem years_all {n nb sb kb ab gb : Nat} {all : List (List Int)} {sums : List Int} (hn : n ≤ 4) (hal : all.length ≤ 24) (hrow : ∀ l ∈ all, l.length = n) (hsl : sums.length = all.length) : ∀ r, YearsOK n nb sb kb ab gb all sums r
  | 0 => years_leaf hn hsl
  | r + 1 => years_step hn hal hrow (years_all hn hal hrow hsl r)

theorem bestOf_len_offer {sums : List Int} {ks : Option (List Int × List Int)} {ys : List Int} {m : Nat} (h : (bestOf ks).length ≤ m) (hy : ys.length ≤ m) : (bestOf (offerF sums ks ys)).length ≤ m := by
  cases ks with
  | none => exact hy
  | some p =>
    obtain ⟨b, k⟩ := p
    rw [offerF]
    split
    · exact hy
    · exact h
theorem growF_len {all : List (List Int)} {sums : List Int} {m : Nat} : ∀ (r : Nat) (ys : List Int) (ks : Option (List Int × List Int)), (bestOf ks).length ≤ m → ys.length + r ≤ m → (bestOf (growF all sums r ys ks)).length ≤ m
  | 0, ys, ks, h, hy => bestOf_len_offer h (by omega)
  | r + 1, ys, ks, h, hy => by
    have : ∀ k, (bestOf (growTo all sums r ys ks k)).length ≤ m := by
      intro k
      induction k with
      | zero => exact h
      | succ k ih =>
        rw [growTo_succ]
        split
        · exact growF_len r _ _ ih (by simp; omega)
        · exact ih
    exact this all.length
theorem yearsF_len (c : Com) : (yearsF c).length ≤ c.villages.length := growF_len _ _ _ (by simp [bestOf]) (by simp)

end Go.Proofs.YtmlikgjfpmjdcaaGreatDoor

