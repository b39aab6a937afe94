/- The answers of the layer, in plain words, and that the bounds answer as all truths do; conditions: as said. -/
import Derived.Test.YtgdifckmjdjcpaaEdgT7
import Derived.Test.YtgdifckmjdjcpaaEdgT8
namespace Go.Proofs.Ytgdifckmjdjcpaa

def countX (x : Edg) : Int × Int := if checkX x ≠ 0 then (0, checkX x) else (((truthsF x).length : Int), 0)
def boundsX (x : Edg) : List (Int × Int) × Int :=
  if checkX x ≠ 0 then ([], checkX x) else match bndF x with
    | none => ([], 12)
    | some s => (s, 0)
def ptB (x : Edg) (a : Int) : Bool := btwB a 0 (x.points - 1)
def apartX (x : Edg) (a b : Int) : (Int × Int) × Int :=
  if checkX x ≠ 0 then ((0, 0), checkX x)
  else if ¬ (ptB x a = true ∧ ptB x b = true) then ((0, 0), 3)
  else if hasT x = false then ((0, 0), 12)
  else (spanF ((truthsF x).map fun t => atL t a.toNat - atL t b.toNat), 0)
def askedX (x : Edg) (c : Cl) : Int := if checkX x ≠ 0 then checkX x else claimE x.points c
def followsX (x : Edg) (c : Cl) : Int × Int :=
  if askedX x c ≠ 0 then (0, askedX x c)
  else if hasT x = false then (0, 12)
  else (verdF ((truthsF x).filter fun t => c.holds (atL t)).length (truthsF x).length, 0)
def noE : Edg := ⟨0, 0, []⟩
def addX (x : Edg) (c : Cl) : Edg × Int :=
  if askedX x c ≠ 0 then (noE, askedX x c)
  else if 7 ≤ x.claims.length then (noE, 6)
  else if hasT (x.add c) = false then (noE, 12)
  else (x.add c, 0)
def wrongX (x : Edg) : List Nat × Int := if checkX x ≠ 0 then ([], checkX x) else (maskL ((wrongF x).getD 0), 0)
def clashX (x : Edg) : List Nat × Int :=
  if checkX x ≠ 0 then ([], checkX x) else match clashF x with
    | none => ([], 11)
    | some g => (maskL g, 0)
def idleX (x : Edg) : List Nat × Int := if checkX x ≠ 0 then ([], checkX x) else (idleF x, 0)
def bothX (x : Edg) (l : List Fu) : Int := if checkX x ≠ 0 then checkX x else furX x.points l
def tkE (l : List Fu) (s : Bs) (p : Nat) (y : Int) : Int × Int := (tkF (newG p y l) (gl s p), tkF (newG p y l) (gh s p))
def takenX (x : Edg) (l : List Fu) (y : Int) : List (Int × Int) × Int :=
  if bothX x l ≠ 0 then ([], bothX x l)
  else if btwB y 0 30 = false then ([], 1)
  else match bndF x with
    | none => ([], 12)
    | some s => ((List.range x.n).map fun p => tkE l s p y, 0)
def encrX (x : Edg) (l : List Fu) (y : Int) : List Int × Int := if (takenX x l y).2 ≠ 0 then ([], (takenX x l y).2) else ((takenX x l y).1.map verdE, 0)
def sinceX (x : Edg) (l : List Fu) (p : Int) : (Int × Int) × Int :=
  if bothX x l ≠ 0 then ((0, 0), bothX x l)
  else if ptB x p = false then ((0, 0), 3)
  else match bndF x with
    | none => ((0, 0), 12)
    | some s => ((downY (fun y => decide ((tkE l s p.toNat y).2 > 0)) 31 31, downY (fun y => decide ((tkE l s p.toNat y).1 > 0)) 31 31), 0)
def fineX (x : Edg) (l : List Fu) (rate lo hi : Int) : (Int × Int) × Int :=
  if bothX x l ≠ 0 then ((0, 0), bothX x l)
  else if ¬ (btwB rate 1 9 = true ∧ btwB lo 0 30 = true ∧ btwB hi 0 30 = true) then ((0, 0), 1)
  else if hi < lo then ((0, 0), 5)
  else match bndF x with
    | none => ((0, 0), 12)
    | some s => ((fineF rate x.n (fun y p => (tkE l s p y).1) lo hi, fineF rate x.n (fun y p => (tkE l s p y).2) lo hi), 0)

theorem taken_truths {x : Edg} {s : Bs} (h : IsBnd x s) (l : List Fu) {p : Nat} (hp : p < x.n) (y : Int) : spanF ((truthsF x).map fun t => tkF (newG p y l) (atL t p)) = tkE l s p y :=
  span_truths h (f := fun t => tkF (newG p y l) (t p)) fun _ _ hab => tkF_mono _ (hab p hp)
theorem encr_truths {x : Edg} {s : Bs} (h : IsBnd x s) (l : List Fu) {p : Nat} (hp : p < x.n) (y : Int) : verdF ((truthsF x).filter fun t => decide (tkF (newG p y l) (atL t p) > 0)).length (truthsF x).length = verdE (tkE l s p y) := by
  rw [verd_ends (f := fun t => tkF (newG p y l) (atL t p)) (bndF_some h.eq) fun _ _ => tkF_nonneg _ _, taken_truths h l hp y]
theorem tkE_le {x : Edg} {s : Bs} (h : IsBnd x s) (l : List Fu) {p : Nat} (hp : p < x.n) (y : Int) : 0 ≤ (tkE l s p y).1 ∧ (tkE l s p y).1 ≤ (tkE l s p y).2 := by
  refine ⟨tkF_nonneg _ _, tkF_mono _ ?_⟩
  have := h.all _ h.lo p (by rw [h.len]; exact hp)
  rw [atL_fst] at this
  exact this.2
theorem verdE_never {n : Int × Int} (h : 0 ≤ n.1 ∧ n.1 ≤ n.2) : verdE n ≠ 2 ↔ 0 < n.2 := by
  unfold verdE
  by_cases h1 : n.1 > 0
  · rw [if_pos h1]; simp; omega
  · rw [if_neg h1]
    by_cases h2 : n.2 = 0
    · rw [if_pos h2]; simp; omega
    · rw [if_neg h2]; simp; omega
theorem verdE_always {n : Int × Int} : verdE n = 1 ↔ 0 < n.1 := by
  unfold verdE
  by_cases h1 : n.1 > 0
  · rw [if_pos h1]; simp; omega
  · rw [if_neg h1]
    by_cases h2 : n.2 = 0
    · rw [if_pos h2]; simp; omega
    · rw [if_neg h2]; simp; omega
theorem fineX_truths {x : Edg} {s : Bs} (h : IsBnd x s) (l : List Fu) {rate : Int} (hr : 0 ≤ rate) (lo hi : Int) :
    spanF ((truthsF x).map fun t => fineF rate x.n (fun y p => tkF (newG p y l) (atL t p)) lo hi) = (fineF rate x.n (fun y p => (tkE l s p y).1) lo hi, fineF rate x.n (fun y p => (tkE l s p y).2) lo hi) :=
  fine_truths h hr (fu := fun y p => newG p y l)

/-- Where there is a truth there are bounds. -/
theorem bnd_exists {x : Edg} (hx : x.Ok) (ht : truthsF x ≠ []) : ∃ s, IsBnd x s := by
  have good : ∀ {s : Bs}, Pass x s → ∀ p < x.n, gl s p ≤ gh s p := fun h p hp => Int.not_lt.1 fun hl => ht (h.none hp hl)
  have key : ∀ (n : Nat) (s : Bs), Pass x s → (mu s).toNat = n → ∃ s, IsBnd x s := by
    intro n
    induction n using Nat.strongRecOn with
    | _ n ih =>
      intro s hs hn
      have h' := hs.next hx
      by_cases hc : (passF x s).2 = true
      · have hl := hs.less hx hc
        have h0 := mu_nonneg (s := (passF x s).1) fun p hp => good h' p (by rw [← h'.len]; exact hp)
        exact ih (mu (passF x s).1).toNat (by omega) _ h' rfl
      · exact ⟨s, (hs.done hx (by simpa using hc) (good h')).2⟩
  exact key _ _ Pass.start rfl
theorem bnd_of {x : Edg} (hx : x.Ok) {s : Bs} (h : bndF x = some s) : IsBnd x s := by
  obtain ⟨s', h'⟩ := bnd_exists hx (bndF_some h)
  rw [h'.eq] at h
  injection h with h
  exact h ▸ h'
theorem bnd_cases {x : Edg} (hx : x.Ok) : (truthsF x = [] ∧ bndF x = none ∧ hasT x = false) ∨ ∃ s, IsBnd x s ∧ bndF x = some s ∧ hasT x = true := by
  by_cases h : truthsF x = []
  · refine .inl ⟨h, bndF_none.2 h, ?_⟩
    unfold hasT; rw [h]; rfl
  · obtain ⟨s, hs⟩ := bnd_exists hx h
    exact .inr ⟨s, hs, hs.eq, hasT_iff.2 h⟩

end Go.Proofs.Ytgdifckmjdjcpaa
