/- Arguments of the types api.Edge, api.Claim, api.Furrow, []api.Furrow, int, read as such; conditions: none. -/
import Derived.Test.YtbpfhoihfoojfaaGreatDoorLaw
import Derived.Test.YtbpfhoihfoojfaaGreatDoorMem
import Derived.Deep.Strs
namespace Go.Proofs.YtbpfhoihfoojfaaGreatDoor
open Go.RowKit Go.ChangeShapes Go.WideShapes Go.ChangeAt

def fieldsOf (t : Option TypeDesc) : List (TypeId × Nat) := match t with
  | some (.struct fs) => fs.toList.map fun f => (f.type, f.offset)
  | _ => []
theorem f26 : fieldsOf (Tryz.prog.underlying 54) = [(3, 0), (3, 1), (3, 2), (3, 3), (3, 4)] := by kernel_rfl
theorem f76 : fieldsOf (Tryz.prog.underlying 73) = [(3, 0), (3, 1), (3, 2)] := by kernel_rfl
theorem f24 : fieldsOf (Tryz.prog.underlying 24) = [(3, 0), (3, 1), (22, 2)] := by kernel_rfl
theorem c26 : Tryz.prog.cellsOf 54 = 5 := by kernel_rfl
theorem c76 : Tryz.prog.cellsOf 73 = 3 := by kernel_rfl
theorem c24 : Tryz.prog.cellsOf 24 = 3 := by kernel_rfl
theorem c22 : Tryz.prog.cellsOf 22 = 1 := by kernel_rfl
theorem fields_at {T : Option TypeDesc} {L : List (TypeId × Nat)} (h : fieldsOf T = L) (hL : L ≠ []) : ∃ fs : Array Field, T = some (.struct fs) ∧ fs.size = L.length ∧ ∀ i (hi : i < L.length), ∃ fd, fs[i]? = some fd ∧ fd.type = L[i].1 ∧ fd.offset = L[i].2 := by
  unfold fieldsOf at h
  split at h
  · rename_i fs
    have hs : fs.size = L.length := by rw [← h]; simp
    refine ⟨fs, rfl, hs, fun i hi => ?_⟩
    have hi' : i < fs.size := by omega
    refine ⟨fs[i], Array.getElem?_eq_getElem hi', ?_, ?_⟩
    · subst h; simp
    · subst h; simp
  · exact absurd h.symm hL

section
variable {H : Type} {enc : TypeId × Value → H} {W : World}

theorem int_of_trod {n : Nat} {x0 : Value} {y : DataW H × List MemPlace} (h : DataW.trod enc Tryz.prog W 0 (fun _ => true) true n 3 [x0] = some y) : ∃ z : Int, x0 = .int .i64 z := by
  obtain ⟨z0, e0, _⟩ := DataW.trod_int Tryz.underlying3 h
  injection e0 with e0
  exact ⟨z0, e0⟩
/-- A struct of numbers. -/
theorem nums_of_trod {t : TypeId} {k : Nat} (hf : fieldsOf (Tryz.prog.underlying t) = (List.range k).map fun i => (3, i)) (hk : 0 < k) (hc : Tryz.prog.cellsOf t = k) {n : Nat} {cs : List Value} {y : DataW H × List MemPlace} (h : DataW.trod enc Tryz.prog W 0 (fun _ => true) true n t cs = some y) :
    cs.length = k ∧ ∀ i (hi : i < cs.length), ∃ z : Int, cs[i] = .int .i64 z := by
  obtain ⟨fs, hT, hs, hfs⟩ := fields_at hf (by intro e; have := congrArg List.length e; simp at this; omega)
  obtain ⟨xs, n', _, _, hl, hlen, hx⟩ := DataW.trod_struct hT h
  rw [hc] at hl
  refine ⟨hl, fun i hi => ?_⟩
  obtain ⟨fd, h1, h2, h3⟩ := hfs i (by simp; omega)
  simp only [List.getElem_map, List.getElem_range] at h2 h3
  have h4 := hx i fd h1
  rw [h2, h3, Tryz.cells3] at h4
  have e : (cs.drop i).take 1 = [cs[i]] := by
    rw [List.drop_eq_getElem_cons hi]; rfl
  rw [e] at h4
  cases hxi : xs[i]? with
  | none => rw [hxi] at h4; rw [List.getElem?_eq_none_iff] at hxi; simp at hs; omega
  | some y0 => rw [hxi] at h4; exact int_of_trod h4

theorem pick_all {α : Type} {P : Nat → α → Prop} : ∀ n, (∀ i, i < n → ∃ a, P i a) → ∃ L : List α, L.length = n ∧ ∀ i (h : i < L.length), P i L[i]
  | 0, _ => ⟨[], rfl, fun i h => by simp at h⟩
  | n + 1, h => by
    obtain ⟨L, hl, hL⟩ := pick_all n (fun i hi => h i (by omega))
    obtain ⟨a, ha⟩ := h n (by omega)
    refine ⟨L ++ [a], by simp [hl], fun i hi => ?_⟩
    by_cases e : i < L.length
    · rw [List.getElem_append_left e]; exact hL i e
    · have : i = L.length := by simp at hi; omega
      subst this
      simp only [List.getElem_append_right (Nat.le_refl _), Nat.sub_self, List.getElem_cons_zero]
      rw [hl]; exact ha
theorem add_zero' (a : Addr) : a.add 0 = a := by unfold Addr.add; split <;> simp_all

set_option maxRecDepth 100000 in
/-- A slice of structs. -/
theorem elems_of_trod {α : Type} {f : α → List Value} {k : Nat} (hfl : ∀ a, (f a).length = k) (hk : 0 < k) {ts te : TypeId} (hu : Tryz.prog.underlying ts = some (.slice te)) (hc : Tryz.prog.cellsOf te = k)
    (hel : ∀ n cs (y : DataW H × List MemPlace), DataW.trod enc Tryz.prog W 0 (fun _ => true) true n te cs = some y → ∃ a, f a = cs) {v : Value} {fuel : Nat} {x : DataW H × List MemPlace} (h : DataW.trod enc Tryz.prog W 0 (fun _ => true) true fuel ts [v] = some x) :
    ∃ l, Elems f (fun _ => True) W v l := by
  rcases DataW.trod_slice hu h with ⟨hcs, _⟩ | ⟨a, len, cap, elems, rest, n, _, hcs, _, _, hl, hm, hlen, hel2, _⟩
  · injection hcs with hcs
    subst hcs
    exact ⟨[], none, 0, rfl, Nat.zero_le _, ⟨by unfold maxLen; omega, fun _ => rfl⟩, .inl rfl⟩
  · injection hcs with hcs
    subst hcs
    rw [hc] at hel2
    have each : ∀ i, i < len → ∃ p : α, ∀ j, j < k → W.cell? ((a.add (i * k)).add j) = (f p)[j]? := by
      intro i hi
      have he := hel2 i hi
      obtain ⟨y, hy⟩ : ∃ y, elems[i]? = some y := ⟨elems[i], List.getElem?_eq_getElem (by omega)⟩
      rw [hy, Option.bind_eq_some_iff] at he
      obtain ⟨cs, hcs, ht⟩ := he
      obtain ⟨_, hcl, hcc⟩ := World.cells?_some hcs
      obtain ⟨p, hp⟩ := hel _ _ _ ht
      refine ⟨p, fun j hj => ?_⟩
      rw [hcc j (by rw [hp] at *; omega), hp, List.getElem?_eq_getElem (by rw [← hp, hfl]; exact hj)]
    obtain ⟨L, hLl, hL⟩ := pick_all len each
    refine ⟨L, some a, cap, by rw [hLl], by rw [hLl]; exact hl, ⟨hm, by simp⟩, ?_⟩
    by_cases h0 : len = 0
    · left
      have : L = [] := List.length_eq_zero_iff.1 (by omega)
      subst this; rfl
    · right
      obtain ⟨b, off, spot⟩ := a
      have hc0 := hL 0 (by omega) 0 hk
      have hs0 : ∃ u, W.cell? ⟨b, off, spot⟩ = some u := by
        rw [Nat.zero_mul, add_zero', add_zero'] at hc0
        rw [hc0, List.getElem?_eq_getElem (by rw [hfl]; exact hk)]
        exact ⟨_, rfl⟩
      obtain ⟨u0, hu0⟩ := hs0
      have hspot : spot = none := World.cell?_spot hu0
      subst hspot
      have hblt : b < W.heap.size := by
        rcases Nat.lt_or_ge b W.heap.size with h2 | h2
        · exact h2
        · exfalso
          have h3 : W.heap[b]? = none := by simp [h2]
          simp [World.cell?, h3] at hu0
      refine ⟨b, off, rfl, trivial, hblt, fun j u hj => ?_⟩
      have hjl : j < L.length * k := by
        have := (List.getElem?_eq_some_iff.1 hj).1
        rwa [flat_len hfl] at this
      have hq : j / k < L.length := Nat.div_lt_of_lt_mul (by rw [Nat.mul_comm]; exact hjl)
      have hr : j % k < k := Nat.mod_lt _ hk
      have e : j = j / k * k + j % k := by rw [Nat.mul_comm]; exact (Nat.div_add_mod j k).symm
      have h1 := hL (j / k) hq (j % k) hr
      rw [Addr.add_lit, Addr.add_lit] at h1
      have h2 := flat_at hfl L (j / k) hq (j % k) hr
      rw [← e] at h2
      rw [h2] at hj
      rw [← hj, ← h1, show off + j = off + j / k * k + j % k by omega]

theorem list5 {cs : List Value} (hl : cs.length = 5) (h : ∀ i (hi : i < cs.length), ∃ z : Int, cs[i] = .int .i64 z) : ∃ c : Cl, ccells c = cs := by
  match cs, hl with
  | [x0, x1, x2, x3, x4], _ =>
    obtain ⟨a, ha⟩ := h 0 (by simp)
    obtain ⟨b, hb⟩ := h 1 (by simp)
    obtain ⟨c, hc⟩ := h 2 (by simp)
    obtain ⟨d, hd⟩ := h 3 (by simp)
    obtain ⟨e, he⟩ := h 4 (by simp)
    simp at ha hb hc hd he
    subst ha; subst hb; subst hc; subst hd; subst he
    exact ⟨⟨a, b, c, d, e⟩, rfl⟩
theorem list3 {cs : List Value} (hl : cs.length = 3) (h : ∀ i (hi : i < cs.length), ∃ z : Int, cs[i] = .int .i64 z) : ∃ c : Fu, fcells c = cs := by
  match cs, hl with
  | [x0, x1, x2], _ =>
    obtain ⟨a, ha⟩ := h 0 (by simp)
    obtain ⟨b, hb⟩ := h 1 (by simp)
    obtain ⟨c, hc⟩ := h 2 (by simp)
    simp at ha hb hc
    subst ha; subst hb; subst hc
    exact ⟨⟨a, b, c⟩, rfl⟩
theorem cls_of_trod {v : Value} {fuel : Nat} {x : DataW H × List MemPlace} (h : DataW.trod enc Tryz.prog W 0 (fun _ => true) true fuel 22 [v] = some x) : ∃ l, ClsM (fun _ => True) W v l :=
  elems_of_trod ccells_len (by decide) Tryz.underlying22 c26 (fun n cs y hy => by obtain ⟨h1, h2⟩ := nums_of_trod (k := 5) f26 (by decide) c26 hy; exact list5 h1 h2) h
theorem fus_of_trod {v : Value} {fuel : Nat} {x : DataW H × List MemPlace} (h : DataW.trod enc Tryz.prog W 0 (fun _ => true) true fuel 25 [v] = some x) : ∃ l, FusM (fun _ => True) W v l :=
  elems_of_trod fcells_len (by decide) Tryz.underlying25 c76 (fun n cs y hy => by obtain ⟨h1, h2⟩ := nums_of_trod (k := 3) f76 (by decide) c76 hy; exact list3 h1 h2) h

set_option maxRecDepth 100000 in
/-- An argument of type api.Claim. -/
theorem claim_of_arg {base : Nat} {v : Value} {d : DataW H} {p : List MemPlace} (hok : Value.okWide Tryz.prog W .any base 54 v) (h : DataW.Trod enc Tryz.prog W 0 (fun _ => true) true 54 v d p) : ∃ c : Cl, v = c.val := by
  obtain ⟨fuel, hf⟩ := h
  obtain ⟨fs, hT, -, -⟩ := fields_at f26 (by decide)
  obtain ⟨cs, rfl, hcs⟩ := okWide_struct hT hok
  obtain ⟨h1, h2⟩ := nums_of_trod (k := 5) f26 (by decide) c26 hf
  obtain ⟨c, hc⟩ := list5 h1 h2
  refine ⟨c, ?_⟩
  obtain ⟨l⟩ := cs
  have hl : ccells c = l := hc
  rw [← hl]
  rfl
set_option maxRecDepth 100000 in
/-- An argument of type api.Furrow. -/
theorem furrow_of_arg {base : Nat} {v : Value} {d : DataW H} {p : List MemPlace} (hok : Value.okWide Tryz.prog W .any base 73 v) (h : DataW.Trod enc Tryz.prog W 0 (fun _ => true) true 73 v d p) : ∃ c : Fu, v = c.val := by
  obtain ⟨fuel, hf⟩ := h
  obtain ⟨fs, hT, -, -⟩ := fields_at f76 (by decide)
  obtain ⟨cs, rfl, hcs⟩ := okWide_struct hT hok
  obtain ⟨h1, h2⟩ := nums_of_trod (k := 3) f76 (by decide) c76 hf
  obtain ⟨c, hc⟩ := list3 h1 h2
  refine ⟨c, ?_⟩
  obtain ⟨l⟩ := cs
  have hl : fcells c = l := hc
  rw [← hl]
  rfl
/- furrows -/
set_option maxRecDepth 100000 in
theorem furrows_of_arg {base : Nat} {v : Value} {d : DataW H} {p : List MemPlace} (hok : Value.okWide Tryz.prog W .any base 25 v) (h : DataW.Trod enc Tryz.prog W 0 (fun _ => true) true 25 v d p) : ∃ l, FusM (fun _ => True) W v l := by
  obtain ⟨a0, len, cap, rfl⟩ := okWide_slice Tryz.underlying25 hok
  obtain ⟨fuel, hf⟩ := h
  exact fus_of_trod (v := .slice a0 len cap) hf
/- a number -/
set_option maxRecDepth 100000 in
theorem num_of_arg {base : Nat} {v : Value} {d : DataW H} {p : List MemPlace} (hok : Value.okWide Tryz.prog W .any base 3 v) (h : DataW.Trod enc Tryz.prog W 0 (fun _ => true) true 3 v d p) : ∃ x : Int, v = .int .i64 x ∧ -9223372036854775808 ≤ x ∧ x ≤ 9223372036854775807 := by
  obtain ⟨x, rfl⟩ := okWide_int Tryz.underlying3 hok
  obtain ⟨fuel, hf⟩ := h
  obtain ⟨n, hcs, _, hw⟩ := DataW.trod_int Tryz.underlying3 hf
  simp [Value.cells] at hcs
  subst hcs
  have h1 : (Lit.int .i64 x).wf = true := hw
  simp only [Lit.wf, Bool.and_eq_true, decide_eq_true_eq] at h1
  have e1 : IntKind.i64.min = -9223372036854775808 := by decide
  have e2 : IntKind.i64.max = 9223372036854775807 := by decide
  rw [e1, e2] at h1
  exact ⟨x, rfl, h1.1, h1.2⟩
set_option maxRecDepth 100000 in
/-- An argument of type api.Edge. -/
theorem edge_of_arg {base : Nat} {v : Value} {d : DataW H} {p : List MemPlace} (hok : Value.okWide Tryz.prog W .any base 24 v) (h : DataW.Trod enc Tryz.prog W 0 (fun _ => true) true 24 v d p) :
    ∃ (x : Edg) (vx : Value), v = .agg #[.int .i64 x.points, .int .i64 x.bend, vx] ∧ ClsM (fun _ => True) W vx x.claims := by
  obtain ⟨fuel, hf⟩ := h
  obtain ⟨fs, hT, hs, hfs⟩ := fields_at f24 (by decide)
  obtain ⟨cs, rfl, hcs⟩ := okWide_struct hT hok
  obtain ⟨xs, n', _, _, hl, hlen, hx⟩ := DataW.trod_struct hT hf
  obtain ⟨l⟩ := cs
  have hl3 : l.length = 3 := by rw [c24] at hcs; simpa using hcs
  match l, hl3 with
  | [x0, x1, x2], _ =>
    obtain ⟨g0, a1, a2, a3⟩ := hfs 0 (by decide)
    obtain ⟨g1, b1, b2, b3⟩ := hfs 1 (by decide)
    obtain ⟨g2, e1, e2, e3⟩ := hfs 2 (by decide)
    have t0 := hx 0 g0 a1
    have t1 := hx 1 g1 b1
    have t2 := hx 2 g2 e1
    simp only [List.getElem_cons_zero, List.getElem_cons_succ] at a2 a3 b2 b3 e2 e3
    rw [a2, a3, Tryz.cells3] at t0
    rw [b2, b3, Tryz.cells3] at t1
    rw [e2, e3, c22] at t2
    have hx3 : xs.length = 3 := by rw [hlen, hs]; rfl
    rw [List.getElem?_eq_getElem (by omega)] at t0 t1 t2
    obtain ⟨z0, rfl⟩ := int_of_trod (x0 := x0) t0
    obtain ⟨z1, rfl⟩ := int_of_trod (x0 := x1) t1
    obtain ⟨lc, hlc⟩ := cls_of_trod (v := x2) t2
    exact ⟨⟨z0, z1, lc⟩, x2, rfl, hlc⟩
end

end Go.Proofs.YtbpfhoihfoojfaaGreatDoor
