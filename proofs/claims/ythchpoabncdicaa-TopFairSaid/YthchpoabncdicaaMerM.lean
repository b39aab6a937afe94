/- Two villages that become one: commons in the making, beside others; conditions: as said. -/
import Derived.Test.YthchpoabncdicaaMerP
import Derived.Test.YthchpoabncdicaaCopyO
namespace Go.Proofs.Ythchpoabncdicaa
open Go.RowKit

/-- Mountains and villages that the call makes, in blocks from N on. -/
structure MKB (N : Nat) (w : World) (vm vv : Value) (ms : List Int) (vs : List Vil) (ls : List Value) : Prop where
  om : Own N w 3 1 vm ms.length (I64 ms)
  ov : Own N w 51 3 vv vs.length (vcells vs ls)
  apart : ∀ b, vm.ownBlock = some b → vv.ownBlock ≠ some b
  ll : ls.length = vs.length
  li : ∀ i (a : i < ls.length) (b : i < vs.length), Ints (fun b => N ≤ b ∧ vm.ownBlock ≠ some b ∧ vv.ownBlock ≠ some b) w ls[i] vs[i].likes

section
variable {N : Nat} {w w' : World} {vm vv : Value} {ms : List Int} {vs : List Vil} {ls : List Value}
theorem MKB.nil (N : Nat) (w : World) : MKB N w (.slice none 0 0) (.slice none 0 0) [] [] [] :=
  ⟨Own.nil, Own.nil, fun b h => by simp [Value.ownBlock] at h, rfl, fun i a => by simp at a⟩
theorem MKB.call (h : MKB N w vm vv ms vs ls) (hB : Below w.heap.size w w') : MKB N w' vm vv ms vs ls :=
  ⟨Own.call h.om hB, Own.call h.ov hB, h.apart, h.ll, fun i a b => (h.li i a b).call hB⟩
theorem MKB.below (h : MKB N w vm vv ms vs ls) (hs : w.heap.size ≤ w'.heap.size) (hb : ∀ k, N ≤ k → k < w.heap.size → w'.heap[k]? = w.heap[k]?) : MKB N w' vm vv ms vs ls :=
  ⟨Own.step h.om fun k _ h1 h2 => hb k h1 h2, Own.step h.ov fun k _ h1 h2 => hb k h1 h2, h.apart, h.ll, fun i a b => (h.li i a b).step hs fun k hk h2 => hb k hk.1 h2⟩
theorem MKB.mountain (h : MKB N w vm vv ms vs ls) {vm' : Value} {x : Int} (ho : Own N w' 3 1 vm' (ms.length + 1) (I64 ms ++ [.int .i64 x])) (ht : Turned w w' vm vm') : MKB N w' vm' vv (ms ++ [x]) vs ls := by
  have hs := ht.size
  have hv : ∀ i, vv.ownBlock = some i → N ≤ i ∧ i < w.heap.size := fun i hi => World.ownsRow.lt h.ov i hi
  have hpl : ∀ i, vm'.ownBlock = some i → vm.ownBlock = some i ∨ i = w.heap.size := fun i hi => by
    rcases ht.place with e | e
    · exact .inl (e ▸ hi)
    · exact .inr (Option.some.inj (hi.symm.trans e))
  refine ⟨?_, Own.step h.ov fun i hi h1 h2 => ht.block i h2 (fun e => h.apart i e hi), fun b hb1 hb2 => ?_, h.ll, fun i a b => ?_⟩
  · rw [I64_append, List.length_append]; exact ho
  · rcases hpl b hb1 with e | e
    · exact h.apart b e hb2
    · have := (hv b hb2).2; omega
  · refine (((h.li i a b).wide (A' := fun b => N ≤ b ∧ vm.ownBlock ≠ some b ∧ vv.ownBlock ≠ some b ∧ vm'.ownBlock ≠ some b) fun c hc hl => ⟨hc.1, hc.2.1, hc.2.2, fun e => ?_⟩).step
      hs fun c hc hl => ht.block c hl hc.2.1).wide fun c hc _ => ⟨hc.1, hc.2.2.2, hc.2.2.1⟩
    rcases hpl c e with e | e
    · exact hc.2.1 e
    · omega
theorem MKB.village (h : MKB N w vm vv ms vs ls) {vv' vl : Value} {x : Vil} (hli : Ints (fun b => N ≤ b ∧ vm.ownBlock ≠ some b ∧ vv.ownBlock ≠ some b) w vl x.likes)
    (ho : Own N w' 51 3 vv' (vs.length + 1) (vcells vs ls ++ [.int .i64 x.hearths, .int .i64 x.herd, vl])) (ht : Turned w w' vv vv') : MKB N w' vm vv' ms (vs ++ [x]) (ls ++ [vl]) := by
  have hs := ht.size
  have hv : ∀ i, vm.ownBlock = some i → N ≤ i ∧ i < w.heap.size := fun i hi => World.ownsRow.lt h.om i hi
  have hpl : ∀ i, vv'.ownBlock = some i → vv.ownBlock = some i ∨ i = w.heap.size := fun i hi => by
    rcases ht.place with e | e
    · exact .inl (e ▸ hi)
    · exact .inr (Option.some.inj (hi.symm.trans e))
  have hgen : ∀ (u : Value) (l : List Int), Ints (fun b => N ≤ b ∧ vm.ownBlock ≠ some b ∧ vv.ownBlock ≠ some b) w u l → Ints (fun b => N ≤ b ∧ vm.ownBlock ≠ some b ∧ vv'.ownBlock ≠ some b) w' u l := by
    intro u l hu
    refine ((hu.wide (A' := fun b => N ≤ b ∧ vm.ownBlock ≠ some b ∧ vv.ownBlock ≠ some b ∧ vv'.ownBlock ≠ some b) fun c hc hl => ⟨hc.1, hc.2.1, hc.2.2, fun e => ?_⟩).step
      hs fun c hc hl => ht.block c hl hc.2.2.1).wide fun c hc _ => ⟨hc.1, hc.2.1, hc.2.2.2⟩
    rcases hpl c e with e | e
    · exact hc.2.2 e
    · omega
  refine ⟨Own.step h.om fun i hi h1 h2 => ht.block i h2 (fun e => h.apart i hi e), ?_, fun b hb1 hb2 => ?_, by simp [h.ll], fun i a b => ?_⟩
  · rw [vcells_append vs ls h.ll, List.length_append]; exact ho
  · rcases hpl b hb2 with e | e
    · exact h.apart b hb1 e
    · have := (hv b hb1).2; omega
  · by_cases e : i < ls.length
    · rw [List.getElem_append_left e, List.getElem_append_left (by have := h.ll; omega)]
      exact hgen _ _ (h.li i e (by have := h.ll; omega))
    · have e2 : i = ls.length := by simp at a; omega
      subst e2
      rw [List.getElem_append_right (Nat.le_refl _), List.getElem_append_right (by have := h.ll; omega)]
      simp only [Nat.sub_self, List.getElem_cons_zero, h.ll]
      exact hgen _ _ hli
theorem MKB.cm (h : MKB N w vm vv ms vs ls) : Cm (fun b => N ≤ b) w vm vv ⟨ms, vs⟩ :=
  ⟨Own.ints h.om, Own.vils h.ov h.ll fun i a b => (h.li i a b).wide fun _ hb _ => hb.1⟩
theorem MKB.drewN (h : MKB N w vm vv ms vs ls) (n : Nat) : MKB N (w.drewN n) vm vv ms vs ls := h.below (Nat.le_refl _) fun _ _ _ => rfl
end

/-- A village as the statement sets it: few hearths, thirty heads. -/
def twV (v : Vil) : Vil := ⟨1 + (v.hearths - 1) % 25, 30, v.likes⟩
def twT (vs : List Vil) (i : Nat) : Nat → List Vil
  | 0 => vs
  | t + 1 => (twT vs i t).set (i + t) (twV ((twT vs i t).getD (i + t) ⟨0, 0, []⟩))
theorem twT_len (vs : List Vil) (i : Nat) : ∀ t, (twT vs i t).length = vs.length
  | 0 => rfl
  | t + 1 => by rw [twT, List.length_set, twT_len vs i t]
theorem twV_ok {v : Vil} (_ : 1 ≤ v.hearths) : 1 ≤ (twV v).hearths ∧ (twV v).hearths ≤ 25 := by
  rw [twV]
  dsimp only
  omega
theorem twT_ok {m : Nat} {vs : List Vil} {i : Nat} (h : ∀ v ∈ vs, 1 ≤ v.hearths ∧ v.hearths ≤ 50 ∧ 0 ≤ v.herd ∧ v.herd ≤ 60 ∧ PermOf m v.likes) : ∀ t, i + t ≤ vs.length → ∀ v ∈ twT vs i t, 1 ≤ v.hearths ∧ v.hearths ≤ 50 ∧ 0 ≤ v.herd ∧ v.herd ≤ 60 ∧ PermOf m v.likes
  | 0, _ => h
  | t + 1, ht => by
    have ih := twT_ok (i := i) h t (by omega)
    intro v hv
    rw [twT] at hv
    rcases List.mem_or_eq_of_mem_set hv with hv | hv
    · exact ih v hv
    · have hl : i + t < (twT vs i t).length := by rw [twT_len]; omega
      have hx := ih _ (List.getElem_mem hl)
      have e : (twT vs i t).getD (i + t) ⟨0, 0, []⟩ = (twT vs i t)[i + t] := by simp [hl]
      rw [e] at hv
      subst hv
      have := twV_ok hx.1
      refine ⟨this.1, by omega, ?_, ?_, hx.2.2.2.2⟩ <;> simp [twV]
theorem twT_two {vs : List Vil} {i : Nat} (hi : i + 1 < vs.length) (h : ∀ v ∈ vs, 1 ≤ v.hearths) : her (twT vs i 2) i = 30 ∧ her (twT vs i 2) (i + 1) = 30 ∧ hea (twT vs i 2) i + hea (twT vs i 2) (i + 1) ≤ 50 := by
  have e0 : vs.getD i ⟨0, 0, []⟩ = vs[i] := by simp [show i < vs.length by omega]
  have e1 : vs.getD (i + 1) ⟨0, 0, []⟩ = vs[i + 1] := by simp [hi]
  have f1 := twV_ok (h _ (List.getElem_mem (show i < vs.length by omega)))
  have f2 := twV_ok (h _ (List.getElem_mem hi))
  have g : twT vs i 2 = (vs.set i (twV vs[i])).set (i + 1) (twV vs[i + 1]) := by
    simp only [twT, Nat.add_zero, e0]
    congr 2
    simp [hi]
  have a1 : (twT vs i 2).getD i ⟨0, 0, []⟩ = twV vs[i] := by
    rw [g, List.getD_eq_getElem?_getD, List.getElem?_set_ne (by omega), List.getElem?_set_self (by omega)]; rfl
  have a2 : (twT vs i 2).getD (i + 1) ⟨0, 0, []⟩ = twV vs[i + 1] := by
    rw [g, List.getD_eq_getElem?_getD, List.getElem?_set_self (by simpa using hi)]; rfl
  rw [her, her, hea, hea, a1, a2]
  exact ⟨rfl, rfl, by omega⟩
theorem mgV_succ (vs : List Vil) (L : List Int) (i k : Nat) (h : k ≠ i + 1) : mgV vs L i (k + 1) = mgV vs L i k ++ [if k = i then ⟨hea vs i + hea vs (i + 1), 60, L⟩ else ⟨hea vs k, her vs k, L⟩] := by rw [mgV, if_neg h]
theorem mgV_skip (vs : List Vil) (L : List Int) (i : Nat) : mgV vs L i (i + 1 + 1) = mgV vs L i (i + 1) := by rw [mgV, if_pos rfl]

/-- A copy whose villages are the call's own, its lists in blocks of A. -/
structure CopA (A : Nat → Prop) (B : Nat) (w : World) (vm vv : Value) (c : Com) (ls : List Value) : Prop where
  im : Ints (fun b => A b ∧ vv.ownBlock ≠ some b) w vm c.mountains
  ov : Own B w 51 3 vv c.villages.length (vcells c.villages ls)
  ll : ls.length = c.villages.length
  lk : ∀ i (a : i < ls.length) (b : i < c.villages.length), Ints (fun b => A b ∧ vv.ownBlock ≠ some b) w ls[i] c.villages[i].likes
theorem Copied.toA {B : Nat} {w : World} {vm vv : Value} {c : Com} {ls : List Value} (h : Copied B w vm vv c ls) : CopA (fun b => b < w.heap.size) B w vm vv c ls :=
  ⟨h.im.wide fun _ hk hl => ⟨hl, hk.2⟩, h.ov, h.ll, fun i a b => (h.lk i a b).wide fun _ hk hl => ⟨hl, hk.2⟩⟩
theorem CopA.below {A : Nat → Prop} {B U : Nat} {w w' : World} {vm vv : Value} {c : Com} {ls : List Value} (h : CopA A B w vm vv c ls) (hA : ∀ b, A b → b < U) (hv : ∀ b, vv.ownBlock = some b → b < U) (hB : Below U w w') : CopA A B w' vm vv c ls :=
  ⟨h.im.below hB fun k hk _ => hA k hk.1, Own.step h.ov fun k hk _ _ => hB.block k (hv k hk), h.ll, fun i a b => (h.lk i a b).below hB fun k hk _ => hA k hk.1⟩
theorem CopA.call {A : Nat → Prop} {B : Nat} {w w' : World} {vm vv : Value} {c : Com} {ls : List Value} (h : CopA A B w vm vv c ls) (hB : Below w.heap.size w w') : CopA A B w' vm vv c ls :=
  ⟨h.im.call hB, Own.call h.ov hB, h.ll, fun i a b => (h.lk i a b).call hB⟩
theorem CopA.cm {A : Nat → Prop} {B : Nat} {w : World} {vm vv : Value} {c : Com} {ls : List Value} (h : CopA A B w vm vv c ls) : Cm (fun _ => True) w vm vv c :=
  ⟨h.im.wide fun _ _ _ => trivial, ls, h.ll, (Own.arr h.ov).wide fun _ _ _ => trivial, fun i a b => (h.lk i a b).wide fun _ _ _ => trivial⟩
theorem CopA.set {A : Nat → Prop} {B g n cap j : Nat} {w : World} {vm : Value} {ms : List Int} {vs vs' : List Vil} {ls : List Value} {u : Value} (hn : vs.length = n) (h : CopA A B w vm (.slice (some ⟨g, 0, none⟩) n cap) ⟨ms, vs⟩ ls)
    (hv : (vcells vs ls).set j u = vcells vs' ls) (hl : vs'.length = vs.length) (hk : ∀ i (a : i < vs'.length) (b : i < vs.length), vs'[i].likes = vs[i].likes) :
    CopA A B (w.setCell ⟨g, j, none⟩ u) vm (.slice (some ⟨g, 0, none⟩) n cap) ⟨ms, vs'⟩ ls := by
  subst hn
  have hoth : ∀ i, i ≠ g → (w.setCell ⟨g, j, none⟩ u).heap[i]? = w.heap[i]? := fun i hi => Below.heap_setCell _ _ _ _ (show i ≠ g from hi)
  have hszz : (w.setCell ⟨g, j, none⟩ u).heap.size = w.heap.size := by simp [World.setCell]
  have hgen : ∀ (v : Value) (l : List Int), Ints (fun b => A b ∧ (Value.slice (some ⟨g, 0, none⟩) vs.length cap).ownBlock ≠ some b) w v l → Ints (fun b => A b ∧ (Value.slice (some ⟨g, 0, none⟩) vs.length cap).ownBlock ≠ some b) (w.setCell ⟨g, j, none⟩ u) v l :=
    fun v l hi => hi.step (by omega) fun b hb _ => hoth b (fun e => hb.2 (by rw [e]; rfl))
  have hll : ls.length = vs.length := h.ll
  refine ⟨hgen _ _ h.im, ?_, by show ls.length = vs'.length; omega, fun i a b => ?_⟩
  · have h1 : Own B (w.setCell ⟨g, j, none⟩ u) 51 3 _ vs.length _ := (World.ownsRow.stored h.ov j u).1
    rw [hv] at h1
    show Own B _ 51 3 _ vs'.length _
    rw [hl]; exact h1
  · have b' : i < vs'.length := b
    have h1 := hgen _ _ (h.lk i a (by show i < vs.length; omega))
    rw [← hk i b' (by omega)] at h1
    exact h1
theorem CopA.set0n {A : Nat → Prop} {B g n cap : Nat} {w : World} {vm : Value} {ms : List Int} {vs : List Vil} {ls : List Value} (hn : vs.length = n) (h : CopA A B w vm (.slice (some ⟨g, 0, none⟩) n cap) ⟨ms, vs⟩ ls) (k : Nat) (hk : k < vs.length) (x : Int) :
    CopA A B (w.setCell ⟨g, k * 3, none⟩ (.int .i64 x)) vm (.slice (some ⟨g, 0, none⟩) n cap) ⟨ms, vs.set k { vs[k] with hearths := x }⟩ ls :=
  CopA.set hn h (vcells_set0 vs ls h.ll k hk x) (by simp) (fun i a b => by rw [List.getElem_set]; split <;> simp_all)
theorem CopA.set1n {A : Nat → Prop} {B g n cap : Nat} {w : World} {vm : Value} {ms : List Int} {vs : List Vil} {ls : List Value} (hn : vs.length = n) (h : CopA A B w vm (.slice (some ⟨g, 0, none⟩) n cap) ⟨ms, vs⟩ ls) (k : Nat) (hk : k < vs.length) (x : Int) :
    CopA A B (w.setCell ⟨g, k * 3 + 1, none⟩ (.int .i64 x)) vm (.slice (some ⟨g, 0, none⟩) n cap) ⟨ms, vs.set k { vs[k] with herd := x }⟩ ls :=
  CopA.set hn h (vcells_set1 vs ls h.ll k hk x) (by simp) (fun i a b => by rw [List.getElem_set]; split <;> simp_all)
theorem CopA.cellsn {A : Nat → Prop} {B g n cap : Nat} {w : World} {vm : Value} {ms : List Int} {vs : List Vil} {ls : List Value} (hn : vs.length = n) (h : CopA A B w vm (.slice (some ⟨g, 0, none⟩) n cap) ⟨ms, vs⟩ ls) (k : Nat) (hk : k < vs.length) :
    w.cell? ⟨g, k * 3, none⟩ = some (.int .i64 vs[k].hearths) ∧ w.cell? ⟨g, k * 3 + 1, none⟩ = some (.int .i64 vs[k].herd) ∧ w.cell? ⟨g, k * 3 + 2, none⟩ = some (ls[k]'(by have : ls.length = vs.length := h.ll; omega)) := by
  subst hn
  obtain ⟨h1, h2, h3⟩ := vcells_at vs ls h.ll k hk
  have ho : Own B w 51 3 (.slice (some ⟨g, 0, none⟩) vs.length cap) vs.length (vcells vs ls) := h.ov
  exact ⟨by rw [World.ownsRow.cellAt ho (k * 3) (by omega), h1], by rw [World.ownsRow.cellAt ho (k * 3 + 1) (by omega), h2], by rw [World.ownsRow.cellAt ho (k * 3 + 2) (by omega), h3]⟩
theorem CopA.freen {A : Nat → Prop} {B g n cap : Nat} {w : World} {vm : Value} {ms : List Int} {vs : List Vil} {ls : List Value} (hn : vs.length = n) (h : CopA A B w vm (.slice (some ⟨g, 0, none⟩) n cap) ⟨ms, vs⟩ ls) (j : Nat) : w.frozen? ⟨g, j, none⟩ = false := by
  subst hn
  exact World.ownsRow.frozenAt (n := vs.length) h.ov j
/-- A village in a block of its own. -/
theorem Blk.three {b : Nat} {x y z : Value} {t : TypeId} {w : World} (h : Blk b #[x, y, z] t w) (u : Value) :
    Blk b #[u, y, z] t (w.setCell ⟨b, 0, none⟩ u) ∧ Blk b #[x, u, z] t (w.setCell ⟨b, 1, none⟩ u) ∧ Blk b #[x, y, u] t (w.setCell ⟨b, 2, none⟩ u) := by
  unfold Blk at *
  simp only [World.setCell, Array.getElem?_modify, h]
  simp
theorem iota_more (j : Nat) : iota (j + 1) = iota j ++ [(j : Int)] := by simp [iota, List.range_succ]

/-- A row beside what is being appended to. -/
theorem Ints.turnL {N R : Nat} {w w' : World} {vm vm' vv v : Value} {l : List Int} (h : Ints (fun b => N ≤ b ∧ b < R ∧ vm.ownBlock ≠ some b ∧ vv.ownBlock ≠ some b) w v l) (hR : R ≤ w.heap.size) (ht : Turned w w' vm vm') : Ints (fun b => N ≤ b ∧ b < R ∧ vm'.ownBlock ≠ some b ∧ vv.ownBlock ≠ some b) w' v l := by
  refine (h.step ht.size fun k hk hl => ht.block k hl hk.2.2.1).wide fun k hk _ => ⟨hk.1, hk.2.1, fun e => ?_, hk.2.2.2⟩
  rcases ht.place with e1 | e1
  · exact hk.2.2.1 (e1 ▸ e)
  · have := Option.some.inj (e.symm.trans e1)
    have := hk.2.1; omega
theorem Arr.turn {R : Nat} {w w' : World} {vm vm' v : Value} {n : Nat} {xs : List Value} (h : Arr (fun b => R ≤ b) w v n xs) (hv : ∀ b, vm.ownBlock = some b → b < R) (ht : Turned w w' vm vm') : Arr (fun b => R ≤ b) w' v n xs :=
  h.step ht.size fun k hk hl => ht.block k hl (fun e => by have := hv k e; omega)
theorem Blk.turn {b : Nat} {cs : Array Value} {t : TypeId} {w w' : World} {vm vm' : Value} (h : Blk b cs t w) (hv : vm.ownBlock ≠ some b) (ht : Turned w w' vm vm') : Blk b cs t w' := h.keep (ht.block b h.lt hv)
/-- What appending a village and a mountain reads. -/
def MeR (Y : Nat) (vm vv : Value) (V : Nat) (x y z : Value) (w : World) : Prop := Blk Y #[vm, vv] 25 w ∧ Blk V #[x, y, z] 51 w
theorem MeR.drew {Y : Nat} {vm vv : Value} {V : Nat} {x y z : Value} {w : World} (h : MeR Y vm vv V x y z w) : MeR Y vm vv V x y z w.drew := h
theorem MeR.call {Y : Nat} {vm vv : Value} {V : Nat} {x y z : Value} {w w' : World} (h : MeR Y vm vv V x y z w) (hB : Below w.heap.size w w') : MeR Y vm vv V x y z w' := ⟨h.1.call hB, h.2.call hB⟩
theorem MeR.turn {Y : Nat} {vm vv : Value} {V : Nat} {x y z u u' : Value} {w w' : World} (h : MeR Y vm vv V x y z w) (h1 : u.ownBlock ≠ some Y) (h2 : u.ownBlock ≠ some V) (ht : Turned w w' u u') : MeR Y vm vv V x y z w' := ⟨h.1.turn h1 ht, h.2.turn h2 ht⟩
/-- What setting the hearths of the village that two become reads. -/
def MeV (X : Nat) (vm vv : Value) (g o : Nat) (h : Int) (V : Nat) (x y z : Value) (w : World) : Prop := Blk X #[vm, vv] 25 w ∧ w.cell? ⟨g, o, none⟩ = some (.int .i64 h) ∧ Blk V #[x, y, z] 51 w
theorem MeV.drew {X : Nat} {vm vv : Value} {g o : Nat} {h : Int} {V : Nat} {x y z : Value} {w : World} (k : MeV X vm vv g o h V x y z w) : MeV X vm vv g o h V x y z w.drew := k

end Go.Proofs.Ythchpoabncdicaa
