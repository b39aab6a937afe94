/- Contracts of sorted, field, taken, verdict, checked (edge); conditions: at most eight furrows, as checked. -/
import Derived.Test.YtgdifckmjdjcpaaSrt
import Derived.Lib.SliceRun
namespace Go.Proofs.Ytgdifckmjdjcpaa
open Go.RowKit

theorem stable_c {N n cap bk : Nat} {ao : Option Addr} {l : List Fu} (hl : l.length = n) (hn : n ≤ 8) {w : World} (hO : Own N w 76 3 (.slice ao n cap) n (l.flatMap fcells)) (hK : Blk bk #[.func (.func 125) #[] #[]] 155 w) (hNb : bk < N) :
    Calls Try.prog 134 #[.slice ao n cap, .int .i64 n, .func (.func 133) #[] #[.pointer (some ⟨bk, 0, none⟩)]] w fun e w' => e = .returned (.tuple #[]) ∧ ∃ l', (l.Perm l' ∧ l'.Pairwise fun f g => f.year ≤ g.year) ∧ Own N w' 76 3 (.slice ao n cap) n (l'.flatMap fcells) ∧ Keep (fun q => N ≤ q) w w' := by
  have HL := Lib.hid hl
  clear hl
  go_enter Try.func134, Try.ntmps134
  go_wp2_with fail
  refine wp_loop_rounds 1 ?_
  rw [rounds_succ]
  go_wp2_with fail
  refine (insert_c HL.out hn hO hK hNb).mono ?_
  rintro e w2 ⟨rfl, l', hl', hO2, hK2⟩
  go_wp2_with fail
  refine wp_loop_rounds 1 ?_
  rw [rounds_succ]
  go_wp2_with fail
  go_end0
  exact ⟨rfl, l', hl', hO2, hK2⟩

theorem sortStable_c {N n cap bk : Nat} {ao : Option Addr} {l : List Fu} (hl : l.length = n) (hn : n ≤ 8) {w : World} (hO : Own N w 76 3 (.slice ao n cap) n (l.flatMap fcells)) (hK : Blk bk #[.func (.func 125) #[] #[]] 155 w) (hNb : bk < N) :
    Calls Try.prog 132 #[.slice ao n cap, .func (.func 133) #[] #[.pointer (some ⟨bk, 0, none⟩)]] w fun e w' => e = .returned (.tuple #[]) ∧ ∃ l', (l.Perm l' ∧ l'.Pairwise fun f g => f.year ≤ g.year) ∧ Own N w' 76 3 (.slice ao n cap) n (l'.flatMap fcells) ∧ Keep (fun q => N ≤ q) w w' := by
  have HL := Lib.hid hl
  clear hl
  go_enter Try.func132, Try.ntmps132
  go_wp2_with fail
  refine (stable_c HL.out hn hO hK hNb).mono ?_
  rintro e w2 ⟨rfl, l', hl', hO2, hK2⟩
  go_wp2_with fail
  go_end0
  exact ⟨rfl, l', hl', hO2, hK2⟩

theorem Try.info76 : (Try.prog.info? 76).map (fun i => (i.zero, i.size, i.bytes)) = some (some (.agg #[.int .i64 0, .int .i64 0, .int .i64 0]), 3, 24) := by kernel_rfl
theorem fcells_one (c : Fu) : ∀ u ∈ fcells c, u.oneCell' = true := by
  intro u hu
  simp only [fcells, List.mem_cons, List.not_mem_nil, or_false] at hu
  rcases hu with rfl | rfl | rfl <;> rfl
theorem flat_one {α : Type} {f : α → List Value} (hf : ∀ a, ∀ u ∈ f a, u.oneCell' = true) (l : List α) : ∀ u ∈ l.flatMap f, u.oneCell' = true := by
  intro u hu
  obtain ⟨a, _, h⟩ := List.mem_flatMap.1 hu
  exact hf a u h

theorem cloneF_c {A : Nat → Prop} {w : World} {v : Value} {l : List Fu} (h : FusM A w v l) (hl : l.length ≤ 1000) :
    Calls Try.prog 131 #[v] w fun e w' => ∃ v', e = .returned v' ∧ Own w.heap.size w' 76 3 v' l.length (l.flatMap fcells) ∧ Below w.heap.size w w' := by
  obtain ⟨a1, c1, rfl, hc1, hm1⟩ := h.shape
  have n1 := h.len
  have qT : ∀ (w : World) (a : Option Addr) (n c n' c' : Nat), (binOp .eql 44 (.slice a n c) (.slice none n' c')).run Try.prog w = .ok (.bool a.isNone) w := fun w a n c n' c' => Lib.run_eql_slice_nil w _ _ a n c n' c' Try.underlying44
  cases a1 with
  | none =>
    have h0 : l = [] := by
      obtain ⟨ao, cp, hv, h1, ⟨h2, h3⟩, -⟩ := h
      injection hv with e1 e2 e3
      have := h3 e1.symm
      exact List.eq_nil_of_length_eq_zero (by omega)
    subst h0
    go_enter Try.func131, Try.ntmps131
    go_wp2_with fail
    go_ret
    exact ⟨_, rfl, Own.nil, Below.refl _ _⟩
  | some ad =>
    have hh := h.call ((Below.refl w.heap.size w).alloc (Nat.le_refl _) (.cells #[] 76))
    have ho := own_lit w 76 3 #[] 0 rfl (by omega)
    go_enter Try.func131, Try.ntmps131
    go_wp2_with (at_builtin; refine wpList_append_arr rfl _ _ 44 rfl 76 _ 3 24 Try.underlying44 Try.info76 rfl (by decide) (by decide) (by simp) ho rfl hh rfl (flat_len fcells_len l) (flat_one fcells_one l) (by omega) ?_; intro v' w' hown hT)
    go_ret
    rw [Nat.zero_add, List.nil_append] at hown
    exact ⟨_, rfl, hown, hT.below ho ((Below.refl w.heap.size w).alloc (Nat.le_refl _) _) (by simp)⟩

end Go.Proofs.Ytgdifckmjdjcpaa
