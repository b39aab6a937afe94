/- Edges in memory: slices whose elements have several cells, claims, furrows, ranges, an edge as a value; conditions: none. -/
import Derived.Test.YtgdifckmjdjcpaaHand2
import Derived.Test.YtgdifckmjdjcpaaEdgT7
namespace Go.Proofs.Ytgdifckmjdjcpaa
open Go.RowKit

theorem flat_len {α : Type} {f : α → List Value} {k : Nat} (hf : ∀ a, (f a).length = k) : ∀ l : List α, (l.flatMap f).length = l.length * k
  | [] => by simp
  | a :: l => by rw [List.flatMap_cons, List.length_append, hf a, flat_len hf l, List.length_cons, Nat.succ_mul, Nat.add_comm]
theorem flat_at {α : Type} {f : α → List Value} {k : Nat} (hf : ∀ a, (f a).length = k) : ∀ (l : List α) (i : Nat) (hi : i < l.length) (j : Nat), j < k → (l.flatMap f)[i * k + j]? = (f l[i])[j]?
  | [], i, hi, _, _ => by simp at hi
  | a :: l, 0, _, j, hj => by
    rw [List.flatMap_cons, List.getElem?_append_left (by rw [hf a]; omega), Nat.zero_mul, Nat.zero_add]; rfl
  | a :: l, i + 1, hi, j, hj => by
    rw [List.flatMap_cons, List.getElem?_append_right (by rw [hf a, Nat.succ_mul]; omega), hf a, show (i + 1) * k + j - k = i * k + j by rw [Nat.succ_mul]; omega]
    exact flat_at hf l i (by simpa using hi) j hj

/-- A slice of elements, each of them in the cells that f gives. -/
def Elems {α : Type} (f : α → List Value) (A : Nat → Prop) (w : World) (v : Value) (l : List α) : Prop := Arr A w v l.length (l.flatMap f)

section
variable {α : Type} {f : α → List Value} {A A' : Nat → Prop} {w w' : World} {v : Value} {l : List α}
theorem Elems.step (h : Elems f A w v l) (hs : w.heap.size ≤ w'.heap.size) (hb : ∀ k, A k → k < w.heap.size → w'.heap[k]? = w.heap[k]?) : Elems f A w' v l := Arr.step h hs hb
theorem Elems.wide (h : Elems f A w v l) (hA : ∀ k, A k → k < w.heap.size → A' k) : Elems f A' w v l := Arr.wide h hA
theorem Elems.below {B : Nat} (h : Elems f A w v l) (hB : Below B w w') (hA : ∀ k, A k → k < w.heap.size → k < B) : Elems f A w' v l := h.step hB.size fun k hk hl => hB.block k (hA k hk hl)
theorem Elems.call (h : Elems f A w v l) (hB : Below w.heap.size w w') : Elems f A w' v l := h.below hB fun _ _ hl => hl
theorem Elems.drewN (h : Elems f A w v l) (n : Nat) : Elems f A (w.drewN n) v l := h.step (Nat.le_refl _) fun _ _ _ => rfl
theorem Elems.qt (h : Elems f A w v l) (q : Qt w w') : Elems f A w' v l := by
  obtain ⟨n, rfl⟩ := q
  exact h.drewN n
theorem Elems.only {hb : Nat} (h : Elems f A w v l) (ho : w.grownBy w' (some hb)) (hA : ¬ A hb) : Elems f A w' v l :=
  h.step ho.size fun i hi hl => ho.block i hl (fun e => hA (by injection e with e; exact e ▸ hi))
theorem Elems.shape (h : Elems f A w v l) : ∃ ao cap, v = .slice ao l.length cap ∧ l.length ≤ cap ∧ cap ≤ maxLen := by
  obtain ⟨ao, cap, hv, h1, ⟨h2, _⟩, _⟩ := h
  exact ⟨ao, cap, hv, h1, h2⟩
theorem Elems.len (h : Elems f A w v l) : l.length ≤ 9223372036854775807 := by
  obtain ⟨ao, cap, hv, h1, h2⟩ := h.shape
  unfold maxLen at h2; omega
theorem Elems.addr {ao : Option Addr} {n cap k : Nat} (hf : ∀ a, (f a).length = k) (hk : 0 < k) (h : Elems f A w (.slice ao n cap) l) (hx : 0 < l.length) : ∃ b off, ao = some ⟨b, off, none⟩ ∧ A b ∧ b < w.heap.size := by
  obtain ⟨ao', cap', hv, h1, h2, h3⟩ := h
  injection hv with e1 e2 e3
  subst e1
  rcases h3 with h3 | ⟨b, off, he, hA, hl, hc⟩
  · have := flat_len hf l
    rw [h3] at this
    have := Nat.mul_pos hx hk
    simp at *; omega
  · exact ⟨b, off, he, hA, hl⟩
theorem Elems.at {b off n cap k : Nat} (hf : ∀ a, (f a).length = k) (h : Elems f A w (.slice (some ⟨b, off, none⟩) n cap) l) (i : Nat) (hi : i < l.length) (j : Nat) (hj : j < k) (u : Value) (hu : (f l[i])[j]? = some u) :
    w.cell? ⟨b, off + (i * k + j), none⟩ = some u := by
  obtain ⟨ao', cap', hv, h1, h2, h3⟩ := h
  injection hv with e1 e2 e3
  subst e1
  rcases h3 with h3 | ⟨b', off', he, hA, hl, hc⟩
  · have := flat_len hf l
    rw [h3] at this
    have h4 : 0 < l.length * k := Nat.mul_pos (by omega) (by omega)
    simp at this; omega
  · injection he with he
    injection he with e1 e2
    subst e1; subst e2
    exact hc _ _ ((flat_at hf l i hi j hj).trans hu)
end

/-- Claims, furrows, ranges. -/
def ccells (c : Cl) : List Value := [.int .i64 c.kind, .int .i64 c.point, .int .i64 c.other, .int .i64 c.off, .int .i64 c.err]
def fcells (f : Fu) : List Value := [.int .i64 f.point, .int .i64 f.year, .int .i64 f.off]
def rcells (r : Int × Int) : List Value := [.int .i64 r.1, .int .i64 r.2]
theorem ccells_len (c : Cl) : (ccells c).length = 5 := rfl
theorem fcells_len (c : Fu) : (fcells c).length = 3 := rfl
theorem rcells_len (c : Int × Int) : (rcells c).length = 2 := rfl
def Cl.val (c : Cl) : Value := .agg #[.int .i64 c.kind, .int .i64 c.point, .int .i64 c.other, .int .i64 c.off, .int .i64 c.err]
def Fu.val (f : Fu) : Value := .agg #[.int .i64 f.point, .int .i64 f.year, .int .i64 f.off]
abbrev ClsM := Elems ccells
abbrev FusM := Elems fcells
abbrev RgsM := Elems rcells
theorem cls_at {A : Nat → Prop} {w : World} {b off n cap : Nat} {l : List Cl} (h : ClsM A w (.slice (some ⟨b, off, none⟩) n cap) l) (i : Nat) (hi : i < l.length) :
    w.cell? ⟨b, off + i * 5, none⟩ = some (.int .i64 l[i].kind) ∧ w.cell? ⟨b, off + i * 5 + 1, none⟩ = some (.int .i64 l[i].point) ∧ w.cell? ⟨b, off + i * 5 + 2, none⟩ = some (.int .i64 l[i].other) ∧ w.cell? ⟨b, off + i * 5 + 3, none⟩ = some (.int .i64 l[i].off) ∧ w.cell? ⟨b, off + i * 5 + 4, none⟩ = some (.int .i64 l[i].err) :=
  ⟨Elems.at ccells_len h i hi 0 (by decide) _ rfl, Elems.at ccells_len h i hi 1 (by decide) _ rfl, Elems.at ccells_len h i hi 2 (by decide) _ rfl, Elems.at ccells_len h i hi 3 (by decide) _ rfl, Elems.at ccells_len h i hi 4 (by decide) _ rfl⟩
theorem fus_at {A : Nat → Prop} {w : World} {b off n cap : Nat} {l : List Fu} (h : FusM A w (.slice (some ⟨b, off, none⟩) n cap) l) (i : Nat) (hi : i < l.length) :
    w.cell? ⟨b, off + i * 3, none⟩ = some (.int .i64 l[i].point) ∧ w.cell? ⟨b, off + i * 3 + 1, none⟩ = some (.int .i64 l[i].year) ∧ w.cell? ⟨b, off + i * 3 + 2, none⟩ = some (.int .i64 l[i].off) :=
  ⟨Elems.at fcells_len h i hi 0 (by decide) _ rfl, Elems.at fcells_len h i hi 1 (by decide) _ rfl, Elems.at fcells_len h i hi 2 (by decide) _ rfl⟩
theorem rgs_at {A : Nat → Prop} {w : World} {b off n cap : Nat} {l : List (Int × Int)} (h : RgsM A w (.slice (some ⟨b, off, none⟩) n cap) l) (i : Nat) (hi : i < l.length) :
    w.cell? ⟨b, off + i * 2, none⟩ = some (.int .i64 l[i].1) ∧ w.cell? ⟨b, off + i * 2 + 1, none⟩ = some (.int .i64 l[i].2) :=
  ⟨Elems.at rcells_len h i hi 0 (by decide) _ rfl, Elems.at rcells_len h i hi 1 (by decide) _ rfl⟩
theorem cls_addr {A : Nat → Prop} {w : World} {ao : Option Addr} {n cap : Nat} {l : List Cl} (h : ClsM A w (.slice ao n cap) l) (hx : 0 < l.length) : ∃ b off, ao = some ⟨b, off, none⟩ ∧ A b ∧ b < w.heap.size := Elems.addr ccells_len (by decide) h hx
theorem fus_addr {A : Nat → Prop} {w : World} {ao : Option Addr} {n cap : Nat} {l : List Fu} (h : FusM A w (.slice ao n cap) l) (hx : 0 < l.length) : ∃ b off, ao = some ⟨b, off, none⟩ ∧ A b ∧ b < w.heap.size := Elems.addr fcells_len (by decide) h hx
theorem rgs_addr {A : Nat → Prop} {w : World} {ao : Option Addr} {n cap : Nat} {l : List (Int × Int)} (h : RgsM A w (.slice ao n cap) l) (hx : 0 < l.length) : ∃ b off, ao = some ⟨b, off, none⟩ ∧ A b ∧ b < w.heap.size := Elems.addr rcells_len (by decide) h hx

/-- An edge as a value. -/
def edgV (x : Edg) (v : Value) : Value := .agg #[.int .i64 x.points, .int .i64 x.bend, v]

end Go.Proofs.Ytgdifckmjdjcpaa
