/- An argument of type api.Commons, read as commons; conditions: none. -/
import Derived.Test.YtmlikgjfpmjdcaaGreatDoorNx
import Derived.Deep.Strs
namespace Go.Proofs.YtmlikgjfpmjdcaaGreatDoor
open Go.RowKit Go.ChangeShapes Go.WideShapes Go.ChangeAt

def fieldsOf (t : Option TypeDesc) : List (TypeId × Nat) := match t with
  | some (.struct fs) => fs.toList.map fun f => (f.type, f.offset)
  | _ => []
theorem f51 : fieldsOf (Tryz.prog.underlying 43) = [(3, 0), (3, 1), (22, 2)] := by kernel_rfl
theorem f25 : fieldsOf (Tryz.prog.underlying 25) = [(22, 0), (23, 1)] := by kernel_rfl
theorem c51 : Tryz.prog.cellsOf 43 = 3 := by kernel_rfl
theorem c25 : Tryz.prog.cellsOf 25 = 2 := by kernel_rfl
theorem c22 : Tryz.prog.cellsOf 22 = 1 := by kernel_rfl
theorem c23 : Tryz.prog.cellsOf 23 = 1 := by kernel_rfl
theorem u51 : ∃ f0 f1 f2, Tryz.prog.underlying 43 = some (.struct #[f0, f1, f2]) ∧ f0.type = 3 ∧ f0.offset = 0 ∧ f1.type = 3 ∧ f1.offset = 1 ∧ f2.type = 22 ∧ f2.offset = 2 := by
  have h := f51
  generalize Tryz.prog.underlying 43 = T at h ⊢
  unfold fieldsOf at h
  split at h
  · rename_i fs
    obtain ⟨l⟩ := fs
    have hl : l.length = 3 := by have := congrArg List.length h; simpa using this
    match l, hl, h with
    | [f0, f1, f2], _, h =>
      simp at h
      exact ⟨f0, f1, f2, rfl, h.1.1, h.1.2, h.2.1.1, h.2.1.2, h.2.2.1, h.2.2.2⟩
  · simp at h
theorem u25 : ∃ f0 f1, Tryz.prog.underlying 25 = some (.struct #[f0, f1]) ∧ f0.type = 22 ∧ f0.offset = 0 ∧ f1.type = 23 ∧ f1.offset = 1 := by
  have h := f25
  generalize Tryz.prog.underlying 25 = T at h ⊢
  unfold fieldsOf at h
  split at h
  · rename_i fs
    obtain ⟨l⟩ := fs
    have hl : l.length = 2 := by have := congrArg List.length h; simpa using this
    match l, hl, h with
    | [f0, f1], _, h =>
      simp at h
      exact ⟨f0, f1, rfl, h.1.1, h.1.2, h.2.1, h.2.2⟩
  · simp at h

section
variable {H : Type} {enc : TypeId × Value → H} {W : World}

set_option maxRecDepth 100000 in
theorem ints_of_trod {v : Value} {fuel : Nat} {x : DataW H × List MemPlace} (h : DataW.trod enc Tryz.prog W 0 (fun _ => true) true fuel 22 [v] = some x) : ∃ l, Ints (fun _ => True) W v l := by
  rcases open_ints Tryz.underlying22 Tryz.underlying3 Tryz.cells3 h with ⟨hcs, _⟩ | ⟨a, len', cap', zs, hcs, _, hl, hm, hz, _, hcell, _⟩
  · injection hcs with hcs
    subst hcs
    exact ⟨[], ints_nil _ _⟩
  · injection hcs with hcs
    subst hcs
    simp only [if_true] at hz
    have hll : (zs.take len').length = len' := by rw [List.length_take]; omega
    refine ⟨zs.take len', some a, cap', by rw [hll], by rw [hll]; exact hl, ⟨hm, by simp⟩, ?_⟩
    by_cases h0 : len' = 0
    · left; rw [h0]; rfl
    · right
      obtain ⟨b, off, spot⟩ := a
      have hspot : spot = none := by simpa [Addr.add] using World.cell?_spot (hcell 0 (by omega))
      subst hspot
      have hblt : b < W.heap.size := by
        have h1 := hcell 0 (by omega)
        rcases Nat.lt_or_ge b W.heap.size with h2 | h2
        · exact h2
        · exfalso
          have h3 : W.heap[b]? = none := by simp [h2]
          simp [World.cell?, Addr.add, h3] at h1
      refine ⟨b, off, rfl, trivial, hblt, fun j u hj => ?_⟩
      have hjl : j < (zs.take len').length := by
        have := (List.getElem?_eq_some_iff.1 hj).1
        rwa [I64_len] at this
      rw [I64_at _ j hjl] at hj
      injection hj with hj
      have h1 := hcell j (by omega)
      rw [Addr.add_lit] at h1
      rw [h1, ← hj]
      have : zs.getD j 0 = (zs.take len')[j] := by simp [show j < zs.length by omega]
      rw [this]

theorem pick_all {α : Type} {P : Nat → α → Prop} : ∀ n, (∀ i, i < n → ∃ a, P i a) → ∃ L : List α, L.length = n ∧ ∀ i (h : i < L.length), P i L[i]
  | 0, _ => ⟨[], rfl, fun i h => by simp at h⟩
  | n + 1, h => by
    obtain ⟨L, hl, hL⟩ := pick_all n (fun i hi => h i (by omega))
    obtain ⟨a, ha⟩ := h n (by omega)
    refine ⟨L ++ [a], by simp [hl], fun i hi => ?_⟩
    by_cases e : i < L.length
    · rw [List.getElem_append_left e]; exact hL i e
    · have : i = L.length := by simp at hi; omega
      subst this
      simp only [List.getElem_append_right (Nat.le_refl _), Nat.sub_self, List.getElem_cons_zero]
      rw [hl]; exact ha

set_option maxRecDepth 100000 in
theorem vils_of_trod {v : Value} {fuel : Nat} {x : DataW H × List MemPlace} (h : DataW.trod enc Tryz.prog W 0 (fun _ => true) true fuel 23 [v] = some x) : ∃ vs, Vils (fun _ => True) W v vs := by
  rcases DataW.trod_slice Tryz.underlying23 h with ⟨hcs, _⟩ | ⟨a, len, cap, elems, rest, n, _, hcs, _, _, hl, hm, hlen, hel, _⟩
  · injection hcs with hcs
    subst hcs
    exact ⟨[], [], rfl, ⟨none, 0, rfl, Nat.zero_le _, ⟨by unfold maxLen; omega, fun _ => rfl⟩, .inl rfl⟩, fun i a => by simp at a⟩
  · injection hcs with hcs
    subst hcs
    obtain ⟨f0, f1, f2, hu, a1, a2, a3, a4, a5, a6⟩ := u51
    rw [c51] at hel
    have each : ∀ i, i < len → ∃ p : Vil × Value, W.cell? (a.add (i * 3)) = some (.int .i64 p.1.hearths) ∧ W.cell? ((a.add (i * 3)).add 1) = some (.int .i64 p.1.herd) ∧ W.cell? ((a.add (i * 3)).add 2) = some p.2 ∧ Ints (fun _ => True) W p.2 p.1.likes := by
      intro i hi
      have he := hel i hi
      obtain ⟨y, hy⟩ : ∃ y, elems[i]? = some y := ⟨elems[i], List.getElem?_eq_getElem (by omega)⟩
      rw [hy, Option.bind_eq_some_iff] at he
      obtain ⟨cs, hcs, ht⟩ := he
      obtain ⟨_, hcl, hc⟩ := World.cells?_some hcs
      obtain ⟨y0, y1, y2, n', _, _, t0, t1, t2⟩ := Deep.trod_struct3 hu ht
      match cs, hcl with
      | [x0, x1, x2], _ =>
        rw [a1, a2, Tryz.cells3] at t0
        rw [a3, a4, Tryz.cells3] at t1
        rw [a5, a6, c22] at t2
        obtain ⟨z0, e0, _⟩ := DataW.trod_int Tryz.underlying3 (show DataW.trod enc Tryz.prog W 0 (fun _ => true) true n' 3 [x0] = some y0 from t0)
        obtain ⟨z1, e1, _⟩ := DataW.trod_int Tryz.underlying3 (show DataW.trod enc Tryz.prog W 0 (fun _ => true) true n' 3 [x1] = some y1 from t1)
        obtain ⟨l, hl2⟩ := ints_of_trod (show DataW.trod enc Tryz.prog W 0 (fun _ => true) true n' 22 [x2] = some y2 from t2)
        injection e0 with e0
        injection e1 with e1
        refine ⟨⟨⟨z0, z1, l⟩, x2⟩, ?_, ?_, ?_, hl2⟩
        · have := hc 0 (by omega)
          have e2 : (a.add (i * 3)).add 0 = a.add (i * 3) := by unfold Addr.add; split <;> split <;> simp_all
          rw [e2] at this
          rw [this, ← e0]; rfl
        · rw [hc 1 (by omega), ← e1]; rfl
        · rw [hc 2 (by omega)]; rfl
    obtain ⟨L, hLl, hL⟩ := pick_all len each
    refine ⟨L.map (·.1), L.map (·.2), by simp, ⟨some a, cap, by simp [hLl], by simp [hLl]; exact hl, ⟨hm, by simp⟩, ?_⟩, fun i h1 h2 => ?_⟩
    · by_cases h0 : len = 0
      · left
        have : L = [] := List.length_eq_zero_iff.1 (by omega)
        subst this; rfl
      · right
        obtain ⟨b, off, spot⟩ := a
        have hc0 := (hL 0 (by omega)).1
        have hspot : spot = none := by
          have := World.cell?_spot hc0
          simpa [Addr.add] using this
        subst hspot
        have hblt : b < W.heap.size := by
          rcases Nat.lt_or_ge b W.heap.size with h2 | h2
          · exact h2
          · exfalso
            have h3 : W.heap[b]? = none := by simp [h2]
            simp [World.cell?, Addr.add, h3] at hc0
        refine ⟨b, off, rfl, trivial, hblt, fun j u hj => ?_⟩
        have hjl : j < (L.map (·.1)).length * 3 := by
          have := (List.getElem?_eq_some_iff.1 hj).1
          rwa [vcells_len _ _ (by simp)] at this
        have hk : j / 3 < L.length := by simp at hjl; omega
        obtain ⟨g1, g2, g3⟩ := vcells_at (L.map (·.1)) (L.map (·.2)) (by simp) (j / 3) (by simpa using hk)
        obtain ⟨p1, p2, p3, _⟩ := hL (j / 3) hk
        simp only [Addr.add_lit] at p1 p2 p3
        have hr : j % 3 = 0 ∨ j % 3 = 1 ∨ j % 3 = 2 := by omega
        rcases hr with hr | hr | hr
        · have e : j = j / 3 * 3 := by omega
          rw [e] at hj ⊢
          rw [g1] at hj; injection hj with hj
          rw [← hj, p1]; simp
        · have e : j = j / 3 * 3 + 1 := by omega
          rw [e] at hj ⊢
          rw [g2] at hj; injection hj with hj
          rw [← hj, ← Nat.add_assoc, p2]; simp
        · have e : j = j / 3 * 3 + 2 := by omega
          rw [e] at hj ⊢
          rw [g3] at hj; injection hj with hj
          rw [← hj, ← Nat.add_assoc, p3]; simp
    · simp only [List.getElem_map]
      exact (hL i (by simpa using h1)).2.2.2

set_option maxRecDepth 100000 in
/-- An argument of type api.Commons. -/
theorem com_of_arg {base : Nat} {v : Value} {d : DataW H} {p : List MemPlace} (hok : Value.okWide Tryz.prog W .any base 25 v) (h : DataW.Trod enc Tryz.prog W 0 (fun _ => true) true 25 v d p) :
    ∃ vm vv c, v = .agg #[vm, vv] ∧ Cm (fun _ => True) W vm vv c := by
  obtain ⟨fuel, hf⟩ := h
  obtain ⟨f0, f1, hu, a1, a2, a3, a4⟩ := u25
  obtain ⟨cs, rfl, hcs⟩ := okWide_struct hu hok
  obtain ⟨y0, y1, n, _, hl, t0, t1⟩ := trod_struct2 hu hf
  obtain ⟨l⟩ := cs
  have hl2 : l.length = 2 := by rw [c25] at hcs; simpa using hcs
  match l, hl2 with
  | [vm, vv], _ =>
    rw [a1, a2, c22] at t0
    rw [a3, a4, c23] at t1
    obtain ⟨ms, h1⟩ := ints_of_trod (show DataW.trod enc Tryz.prog W 0 (fun _ => true) true n 22 [vm] = some y0 from t0)
    obtain ⟨vs, h2⟩ := vils_of_trod (show DataW.trod enc Tryz.prog W 0 (fun _ => true) true n 23 [vv] = some y1 from t1)
    exact ⟨vm, vv, ⟨ms, vs⟩, rfl, h1, h2⟩
end

end Go.Proofs.YtmlikgjfpmjdcaaGreatDoor
