/- Plain laws of the text of an edge and furrows: what is written is read, what is read is what is written; conditions: as said at each. -/
import Derived.Test.YtbpfhoihfoojfaaGreatDoorPla
import Derived.Test.YtbpfhoihfoojfaaGreatDoorRdP
namespace Go.Proofs.YtbpfhoihfoojfaaGreatDoor

def wE : List UInt8 := [101, 100, 103, 101]
def wPs : List UInt8 := [112, 111, 105, 110, 116, 115]
def wBd : List UInt8 := [98, 101, 110, 100]
def wSt : List UInt8 := [115, 116, 111, 110, 101]
def wMe : List UInt8 := [109, 101, 97, 115, 117, 114, 101]
def wWi : List UInt8 := [119, 105, 116, 104, 105, 110]
def wBe : List UInt8 := [98, 101, 121, 111, 110, 100]
def wAb : List UInt8 := [97, 98, 114, 101, 97, 115, 116]
def wFw : List UInt8 := [102, 117, 114, 114, 111, 119]
def wAt : List UInt8 := [97, 116]
def wIs : List UInt8 := [105, 115]
def wEr : List UInt8 := [101, 114, 114]
def wOf : List UInt8 := [111, 102]
def wYr : List UInt8 := [121, 101, 97, 114]
def wEd : List UInt8 := [101, 100, 103, 101, 100]

/-- A number, below 0 if that is allowed. -/
def sgnL (sg : Bool) (s : List UInt8) : Option Int :=
  if sg = true ∧ s.head? = some 45 ∧ s.tail ≠ [48] then (numL s.tail).map (fun n => -n) else numL s
/-- The numbers of words by a form, where an empty name stands for a number. -/
def formL (sg : Bool) : List (List UInt8) → List (List UInt8) → Option (List Int)
  | [], [] => some []
  | n :: ns, w :: ws =>
    if n = [] then (match sgnL (sg && ns.isEmpty) w with
      | none => none
      | some a => (formL sg ns ws).map (a :: ·))
    else if w = n then formL sg ns ws else none
  | _, _ => none
def numD (i : Int) : List UInt8 := if i < 0 then 45 :: Lib.decDigits (-i).toNat else Lib.decDigits i.toNat
def In99 (i : Int) : Prop := -100 < i ∧ i < 100
theorem dec_digits : ∀ u < 100, ∀ x ∈ Lib.decDigits u, 48 ≤ x.toNat ∧ x.toNat ≤ 57 := by decide +kernel
theorem dec_len : ∀ u < 100, 1 ≤ (Lib.decDigits u).length ∧ (Lib.decDigits u).length ≤ 2 := by decide +kernel
theorem dec_zero : ∀ u < 100, Lib.decDigits u = [48] → u = 0 := by decide +kernel
theorem dec_head {u : Nat} (h : u < 100) : (Lib.decDigits u).head? ≠ some 45 := by
  intro e
  have h1 := dec_digits u h 45 (List.mem_of_mem_head? (by rw [e]; rfl))
  have h2 : (45 : UInt8).toNat = 45 := rfl
  omega
theorem sgnL_some {sg : Bool} {s : List UInt8} {n : Int} (h : sgnL sg s = some n) : s = numD n ∧ In99 n ∧ (sg = false → 0 ≤ n) := by
  unfold sgnL at h
  split at h
  · rename_i hc
    obtain ⟨h1, h2, h3⟩ := hc
    cases hm : numL s.tail with
    | none => rw [hm] at h; cases h
    | some m =>
      rw [hm] at h
      have h : some (-m) = some n := h
      injection h with h
      obtain ⟨m1, m2, m3⟩ := numL_some hm
      have hm0 : m ≠ 0 := fun e => h3 (by rw [m3, e]; decide +kernel)
      have hs : s = 45 :: s.tail := by
        cases s with
        | nil => cases h2
        | cons a r => simp at h2; rw [h2]; rfl
      refine ⟨?_, ⟨by omega, by omega⟩, fun e => by rw [e] at h1; cases h1⟩
      unfold numD
      rw [if_pos (by omega), show (-n).toNat = m.toNat by omega, ← m3]
      exact hs
  · obtain ⟨m1, m2, m3⟩ := numL_some h
    refine ⟨?_, ⟨by omega, by omega⟩, fun _ => m1⟩
    unfold numD
    rw [if_neg (by omega)]
    exact m3
theorem sgnL_num {sg : Bool} {n : Int} (h : In99 n) (h0 : sg = false → 0 ≤ n) : sgnL sg (numD n) = some n := by
  obtain ⟨h1, h2⟩ := h
  unfold sgnL numD
  by_cases hn : n < 0
  · rw [if_pos hn]
    have hs : sg = true := by
      cases sg with
      | true => rfl
      | false => exact absurd (h0 rfl) (by omega)
    rw [if_pos ⟨hs, rfl, fun e => by have := dec_zero _ (by omega) e; omega⟩, List.tail_cons, numL_dec (by omega)]
    simp; omega
  · rw [if_neg hn, if_neg (fun hc => dec_head (by omega) hc.2.1), numL_dec (by omega)]
    simp; omega
theorem numD_len {i : Int} (h : In99 i) (h2 : -10 < i) : (numD i).length ≤ 2 := by
  obtain ⟨h1, h3⟩ := h
  unfold numD
  split
  · have := (show ∀ u < 10, (Lib.decDigits u).length ≤ 1 by decide +kernel) (-i).toNat (by omega)
    simp; omega
  · exact (dec_len _ (by omega)).2
theorem numD_no {i : Int} (h : In99 i) {c : UInt8} (hc : c.toNat < 45) : c ∉ numD i := fun hm => by
  obtain ⟨h1, h3⟩ := h
  unfold numD at hm
  split at hm
  · rcases List.mem_cons.1 hm with e | hm
    · rw [e] at hc; exact absurd hc (by decide)
    · have := (dec_digits _ (by omega) c hm).1; omega
  · have := (dec_digits _ (by omega) c hm).1; omega
theorem numD_ne {i : Int} (h : In99 i) : numD i ≠ [] := fun e => by
  obtain ⟨h1, h3⟩ := h
  unfold numD at e
  split at e
  · cases e
  · have := (dec_len i.toNat (by omega)).1
    rw [e] at this
    simp at this
/-- A form filled. -/
def fillL : List (List UInt8) → List Int → List (List UInt8)
  | [], _ => []
  | [] :: ns, a :: l => numD a :: fillL ns l
  | [] :: _, [] => []
  | n :: ns, l => n :: fillL ns l
theorem formL_some {sg : Bool} : ∀ {ns ws : List (List UInt8)} {l : List Int}, formL sg ns ws = some l → ws = fillL ns l ∧ l.length = ns.count [] ∧ ∀ a ∈ l, In99 a
  | [], [], l, h => by
    unfold formL at h
    injection h with h
    subst h
    exact ⟨rfl, rfl, by simp⟩
  | [], _ :: _, l, h => by unfold formL at h; cases h
  | _ :: _, [], l, h => by unfold formL at h; cases h
  | n :: ns, w :: ws, l, h => by
    unfold formL at h
    by_cases hn : n = []
    · rw [if_pos hn] at h
      cases hs : sgnL (sg && ns.isEmpty) w with
      | none => rw [hs] at h; cases h
      | some a =>
        rw [hs] at h
        cases hf : formL sg ns ws with
        | none => rw [hf] at h; cases h
        | some l' =>
          rw [hf] at h
          have h : some (a :: l') = some l := h
          injection h with h
          subst h
          obtain ⟨h1, h2, h3⟩ := formL_some hf
          obtain ⟨a1, a2, _⟩ := sgnL_some hs
          refine ⟨?_, by rw [hn]; simp [h2], fun b hb => ?_⟩
          · rw [hn, h1, a1]
            rfl
          · rcases List.mem_cons.1 hb with rfl | hb
            · exact a2
            · exact h3 b hb
    · rw [if_neg hn] at h
      by_cases hw : w = n
      · rw [if_pos hw] at h
        obtain ⟨h1, h2, h3⟩ := formL_some h
        refine ⟨?_, by rw [h2, List.count_cons_of_ne hn], h3⟩
        cases n with
        | nil => exact absurd rfl hn
        | cons x r => rw [hw, h1]; rfl
      · rw [if_neg hw] at h
        cases h
/-- The claims and furrows of a line's words. -/
def fo2 (w : List UInt8) : List (List UInt8) := [w, wAt, [], wIs, []]
def fo3 : List (List UInt8) := [wMe, wAt, [], wIs, [], wEr, []]
def foA : List (List UInt8) := [wAb, wAt, [], wOf, [], wIs, []]
def foF : List (List UInt8) := [wFw, wAt, [], wYr, [], wIs, []]
def foH : List (List UInt8) := [wE, [], wPs, wBd, []]
def plR (k : Int) (w : List UInt8) (ws : List (List UInt8)) : Option Cl := (formL false (fo2 w) ws).map fun n => ⟨k, n.getD 0 0, 0, n.getD 1 0, 0⟩
def meR (ws : List (List UInt8)) : Option Cl := (formL false fo3 ws).map fun n => ⟨2, n.getD 0 0, 0, n.getD 1 0, n.getD 2 0⟩
def abR (ws : List (List UInt8)) : Option Cl := (formL true foA ws).map fun n => ⟨5, n.getD 0 0, n.getD 1 0, n.getD 2 0, 0⟩
def fwR (ws : List (List UInt8)) : Option Fu := (formL false foF ws).map fun n => ⟨n.getD 0 0, n.getD 1 0, n.getD 2 0⟩
def hdR (ws : List (List UInt8)) : Option (Int × Int) := (formL false foH ws).map fun n => (n.getD 0 0, n.getD 1 0)
/-- The claim of a line. -/
def clR (ws : List (List UInt8)) : Option Cl :=
  if ws.headD [] = wSt then plR 1 wSt ws
  else if ws.headD [] = wMe then meR ws
  else if ws.headD [] = wWi then plR 3 wWi ws
  else if ws.headD [] = wBe then plR 4 wBe ws
  else if ws.headD [] = wAb then abR ws
  else none
/-- Reading lines: those ahead of the last one, from the i-th on; the edge and the furrows so far. -/
def takeG (fin : List UInt8) : Nat → Edg → List Fu → List (List UInt8) → Except Nat (Edg × List Fu)
  | i, _, _, [] => .error (i + 1)
  | i, x, l, s :: r =>
    if i = 0 then (match hdR (cutL 32 s) with
      | none => .error (i + 1)
      | some m => takeG fin (i + 1) ⟨m.1, m.2, x.claims⟩ l r)
    else if s = wEd then (if r ≠ [] ∨ fin ≠ [] then .error (i + 2) else .ok (x, l))
    else if (cutL 32 s).headD [] = wFw then (match fwR (cutL 32 s) with
      | none => .error (i + 1)
      | some f => takeG fin (i + 1) x (l ++ [f]) r)
    else if l ≠ [] then .error (i + 1)
    else match clR (cutL 32 s) with
      | none => .error (i + 1)
      | some c => takeG fin (i + 1) ⟨x.points, x.bend, x.claims ++ [c]⟩ l r
def emptyX : Edg := ⟨0, 0, []⟩
def takeR (ls : List (List UInt8)) : Except Nat (Edg × List Fu) := takeG (ls.getLastD []) 0 emptyX [] ls.dropLast
/-- Reading. -/
structure RdO where
  x : Edg
  l : List Fu
  line : Int
  e : Int
def readR (t : List UInt8) : RdO :=
  if 500 < t.length then ⟨emptyX, [], 0, 10⟩
  else match takeR (cutL 10 t) with
    | .error n => ⟨emptyX, [], n, 2⟩
    | .ok m => if bothX m.1 m.2 = 0 then ⟨m.1, m.2, 0, 0⟩ else ⟨emptyX, [], 0, bothX m.1 m.2⟩

/-- A line as it is written, without its end. -/
def clW (c : Cl) : List (List UInt8) :=
  if c.kind = 1 then [wSt, wAt, numD c.point, wIs, numD c.off]
  else if c.kind = 2 then [wMe, wAt, numD c.point, wIs, numD c.off, wEr, numD c.err]
  else if c.kind = 3 then [wWi, wAt, numD c.point, wIs, numD c.off]
  else if c.kind = 4 then [wBe, wAt, numD c.point, wIs, numD c.off]
  else [wAb, wAt, numD c.point, wOf, numD c.other, wIs, numD c.off]
def fuW (f : Fu) : List (List UInt8) := [wFw, wAt, numD f.point, wYr, numD f.year, wIs, numD f.off]
def hdW (x : Edg) : List (List UInt8) := [wE, numD x.points, wPs, wBd, numD x.bend]

def clT (num : Int → List UInt8) (c : Cl) : List UInt8 :=
  if c.kind = 1 then ((([115, 116, 111, 110, 101, 32, 97, 116, 32] ++ num c.point) ++ [32, 105, 115, 32]) ++ num c.off)
  else if c.kind = 2 then ((((([109, 101, 97, 115, 117, 114, 101, 32, 97, 116, 32] ++ num c.point) ++ [32, 105, 115, 32]) ++ num c.off) ++ [32, 101, 114, 114, 32]) ++ num c.err)
  else if c.kind = 3 then ((([119, 105, 116, 104, 105, 110, 32, 97, 116, 32] ++ num c.point) ++ [32, 105, 115, 32]) ++ num c.off)
  else if c.kind = 4 then ((([98, 101, 121, 111, 110, 100, 32, 97, 116, 32] ++ num c.point) ++ [32, 105, 115, 32]) ++ num c.off)
  else ((((([97, 98, 114, 101, 97, 115, 116, 32, 97, 116, 32] ++ num c.point) ++ [32, 111, 102, 32]) ++ num c.other) ++ [32, 105, 115, 32]) ++ num c.off)
def fuT (num : Int → List UInt8) (f : Fu) : List UInt8 := ((((([102, 117, 114, 114, 111, 119, 32, 97, 116, 32] ++ num f.point) ++ [32, 121, 101, 97, 114, 32]) ++ num f.year) ++ [32, 105, 115, 32]) ++ num f.off) ++ [10]
def hdT (num : Int → List UInt8) (x : Edg) : List UInt8 := (([101, 100, 103, 101, 32] ++ num x.points) ++ [32, 112, 111, 105, 110, 116, 115, 32, 98, 101, 110, 100, 32]) ++ num x.bend ++ [10]
def edT (num : Int → List UInt8) (x : Edg) (l : List Fu) : List UInt8 := hdT num x ++ (x.claims.flatMap fun c => clT num c ++ [10]) ++ (l.flatMap (fuT num)) ++ [101, 100, 103, 101, 100, 10]

theorem clT_eq (c : Cl) : clT numD c = joinL 32 (clW c) := by
  unfold clT clW
  split
  · simp [joinL, wSt, wAt, wIs]
  split
  · simp [joinL, wMe, wAt, wIs, wEr]
  split
  · simp [joinL, wWi, wAt, wIs]
  split
  · simp [joinL, wBe, wAt, wIs]
  · simp [joinL, wAb, wAt, wIs, wOf]
theorem fuT_eq (f : Fu) : fuT numD f = joinL 32 (fuW f) ++ [10] := by
  unfold fuT fuW
  simp [joinL, wFw, wAt, wIs, wYr]
theorem hdT_eq (x : Edg) : hdT numD x = joinL 32 (hdW x) ++ [10] := by
  unfold hdT hdW
  simp [joinL, wE, wPs, wBd]
theorem joinL_flat (c : UInt8) (a : List UInt8) : ∀ r : List (List UInt8), joinL c (a :: r) = a ++ r.flatMap (fun x => c :: x)
  | [] => by simp [joinL]
  | b :: r => by
    rw [joinL_cons c a (by simp), joinL_flat c b r]
    simp
theorem flat_shift (ls : List (List UInt8)) (t : List UInt8) : [10] ++ (ls.flatMap (fun x => x ++ [10]) ++ t) = ls.flatMap (fun x => 10 :: x) ++ (10 :: t) := by
  induction ls with
  | nil => simp
  | cons a r ih => simp only [List.flatMap_cons, List.append_assoc, List.cons_append]; rw [← ih]; simp
def mid (cs : List Cl) (fs : List Fu) : List (List UInt8) := cs.map (fun c => joinL 32 (clW c)) ++ fs.map (fun f => joinL 32 (fuW f))
theorem edT_eq (x : Edg) (l : List Fu) : edT numD x l = joinL 10 (joinL 32 (hdW x) :: (mid x.claims l ++ [wEd, []])) := by
  rw [joinL_flat]
  unfold edT
  rw [hdT_eq]
  have h1 : (x.claims.flatMap fun c => clT numD c ++ [10]) = (x.claims.map (fun c => joinL 32 (clW c))).flatMap (fun x => x ++ [10]) := by
    rw [List.flatMap_map]
    simp only [clT_eq]
  have h2 : l.flatMap (fuT numD) = (l.map (fun f => joinL 32 (fuW f))).flatMap (fun x => x ++ [10]) := by
    rw [List.flatMap_map]
    simp only [← fuT_eq]
  rw [h1, h2, List.append_assoc, List.append_assoc, List.append_assoc, ← List.append_assoc (List.flatMap _ _) (List.flatMap _ _), ← List.flatMap_append, flat_shift]
  unfold mid
  simp [wEd]
theorem join_no {c d : UInt8} (hcd : c ≠ d) : ∀ {ls : List (List UInt8)}, (∀ a ∈ ls, c ∉ a) → c ∉ joinL d ls
  | [], _ => by simp [joinL]
  | a :: r, h => by
    rw [joinL_flat]
    intro hm
    rcases List.mem_append.1 hm with hm | hm
    · exact h a (by simp) hm
    · obtain ⟨x, hx, hm⟩ := List.mem_flatMap.1 hm
      rcases List.mem_cons.1 hm with e | hm
      · exact hcd e
      · exact h x (by simp [hx]) hm
/-- Of what a line can hold. -/
structure ClIn (c : Cl) : Prop where
  k : 1 ≤ c.kind ∧ c.kind ≤ 5
  p : In99 c.point ∧ 0 ≤ c.point
  a : In99 c.off ∧ (c.kind ≠ 5 → 0 ≤ c.off)
  o : if c.kind = 5 then In99 c.other ∧ 0 ≤ c.other else c.other = 0
  e : if c.kind = 2 then In99 c.err ∧ 0 ≤ c.err else c.err = 0
structure FuIn (f : Fu) : Prop where
  p : In99 f.point ∧ 0 ≤ f.point
  y : In99 f.year ∧ 0 ≤ f.year
  a : In99 f.off ∧ 0 ≤ f.off
theorem clIn_of {P : Int} (hP : P ≤ 4) {c : Cl} (h : c.Ok P) : ClIn c := by
  obtain ⟨k1, k2⟩ := h.k
  obtain ⟨p1, p2⟩ := h.p
  refine ⟨h.k, ⟨⟨by omega, by omega⟩, p1⟩, ?_, ?_, ?_⟩
  · have ha := h.a
    by_cases hk : c.kind = 5
    · rw [if_pos hk] at ha
      exact ⟨⟨by omega, by omega⟩, fun e => absurd hk e⟩
    · rw [if_neg hk] at ha
      exact ⟨⟨by omega, by omega⟩, fun _ => by omega⟩
  · have ho := h.o
    by_cases hk : c.kind = 5
    · rw [if_pos hk] at ho ⊢
      exact ⟨⟨by omega, by omega⟩, by omega⟩
    · rw [if_neg hk] at ho ⊢
      exact ho
  · have he := h.e
    by_cases hk : c.kind = 2
    · rw [if_pos hk] at he ⊢
      exact ⟨⟨by omega, by omega⟩, by omega⟩
    · rw [if_neg hk] at he ⊢
      exact he
theorem fuIn_of {P : Int} (hP : P ≤ 4) {f : Fu} (h : f.Ok P) : FuIn f := by
  obtain ⟨h1, h2, h3⟩ := h
  exact ⟨⟨⟨by omega, by omega⟩, by omega⟩, ⟨⟨by omega, by omega⟩, by omega⟩, ⟨⟨by omega, by omega⟩, by omega⟩⟩

theorem w_no (c : UInt8) (hc : c.toNat < 45) : c ∉ wE ∧ c ∉ wPs ∧ c ∉ wBd ∧ c ∉ wSt ∧ c ∉ wMe ∧ c ∉ wWi ∧ c ∉ wBe ∧ c ∉ wAb ∧ c ∉ wFw ∧ c ∉ wAt ∧ c ∉ wIs ∧ c ∉ wEr ∧ c ∉ wOf ∧ c ∉ wYr ∧ c ∉ wEd := by
  have t : ∀ w ∈ [wE, wPs, wBd, wSt, wMe, wWi, wBe, wAb, wFw, wAt, wIs, wEr, wOf, wYr, wEd], ∀ x ∈ w, 45 ≤ x.toNat := by decide
  refine ⟨fun hm => by have := t wE (by simp) c hm; omega, fun hm => by have := t wPs (by simp) c hm; omega, fun hm => by have := t wBd (by simp) c hm; omega, fun hm => by have := t wSt (by simp) c hm; omega, fun hm => by have := t wMe (by simp) c hm; omega, fun hm => by have := t wWi (by simp) c hm; omega, fun hm => by have := t wBe (by simp) c hm; omega, fun hm => by have := t wAb (by simp) c hm; omega, fun hm => by have := t wFw (by simp) c hm; omega, fun hm => by have := t wAt (by simp) c hm; omega, fun hm => by have := t wIs (by simp) c hm; omega, fun hm => by have := t wEr (by simp) c hm; omega, fun hm => by have := t wOf (by simp) c hm; omega, fun hm => by have := t wYr (by simp) c hm; omega, fun hm => by have := t wEd (by simp) c hm; omega⟩
theorem clW_no {c : Cl} (h : ClIn c) (b : UInt8) (hb : b.toNat < 45) : ∀ a ∈ clW c, b ∉ a := by
  obtain ⟨nwE, nwPs, nwBd, nwSt, nwMe, nwWi, nwBe, nwAb, nwFw, nwAt, nwIs, nwEr, nwOf, nwYr, nwEd⟩ := w_no b hb
  have hp := numD_no h.p.1 hb
  have ha := numD_no h.a.1 hb
  have ho := h.o
  have he := h.e
  intro a hm
  unfold clW at hm
  split at hm
  · simp only [List.mem_cons, List.not_mem_nil, or_false] at hm
    rcases hm with rfl | rfl | rfl | rfl | rfl <;> assumption
  split at hm
  · rename_i h2
    rw [if_pos h2] at he
    have he := numD_no he.1 hb
    simp only [List.mem_cons, List.not_mem_nil, or_false] at hm
    rcases hm with rfl | rfl | rfl | rfl | rfl | rfl | rfl <;> assumption
  split at hm
  · simp only [List.mem_cons, List.not_mem_nil, or_false] at hm
    rcases hm with rfl | rfl | rfl | rfl | rfl <;> assumption
  split at hm
  · simp only [List.mem_cons, List.not_mem_nil, or_false] at hm
    rcases hm with rfl | rfl | rfl | rfl | rfl <;> assumption
  · have hk := h.k
    rw [if_pos (show c.kind = 5 by omega)] at ho
    have ho := numD_no ho.1 hb
    simp only [List.mem_cons, List.not_mem_nil, or_false] at hm
    rcases hm with rfl | rfl | rfl | rfl | rfl | rfl | rfl <;> assumption
theorem fuW_no {f : Fu} (h : FuIn f) (b : UInt8) (hb : b.toNat < 45) : ∀ a ∈ fuW f, b ∉ a := by
  obtain ⟨nwE, nwPs, nwBd, nwSt, nwMe, nwWi, nwBe, nwAb, nwFw, nwAt, nwIs, nwEr, nwOf, nwYr, nwEd⟩ := w_no b hb
  have hp := numD_no h.p.1 hb
  have ha := numD_no h.a.1 hb
  have hy := numD_no h.y.1 hb
  intro a hm
  unfold fuW at hm
  simp only [List.mem_cons, List.not_mem_nil, or_false] at hm
  rcases hm with rfl | rfl | rfl | rfl | rfl | rfl | rfl <;> assumption
theorem hdW_no {x : Edg} (h1 : In99 x.points) (h2 : In99 x.bend) (b : UInt8) (hb : b.toNat < 45) : ∀ a ∈ hdW x, b ∉ a := by
  obtain ⟨nwE, nwPs, nwBd, nwSt, nwMe, nwWi, nwBe, nwAb, nwFw, nwAt, nwIs, nwEr, nwOf, nwYr, nwEd⟩ := w_no b hb
  have hp := numD_no h1 hb
  have ha := numD_no h2 hb
  intro a hm
  unfold hdW at hm
  simp only [List.mem_cons, List.not_mem_nil, or_false] at hm
  rcases hm with rfl | rfl | rfl | rfl | rfl <;> assumption
theorem clW_ne (c : Cl) : clW c ≠ [] := by
  unfold clW
  repeat' split
  all_goals simp
theorem cut_clW {c : Cl} (h : ClIn c) : cutL 32 (joinL 32 (clW c)) = clW c := cut_join (clW_ne c) (clW_no h 32 (by decide))
theorem cut_fuW {f : Fu} (h : FuIn f) : cutL 32 (joinL 32 (fuW f)) = fuW f := cut_join (by simp [fuW]) (fuW_no h 32 (by decide))
theorem nm (a : Int) (h : In99 a ∧ 0 ≤ a) : sgnL false (numD a) = some a := sgnL_num h.1 fun _ => h.2
theorem ns (a : Int) (h : In99 a) : sgnL true (numD a) = some a := sgnL_num h fun e => by cases e
theorem nm2 (sg : Bool) (a : Int) (h : In99 a ∧ 0 ≤ a) : sgnL sg (numD a) = some a := sgnL_num h.1 fun _ => h.2
theorem fo2_fill (w : List UInt8) (hw : w ≠ []) {a b : Int} (ha : In99 a ∧ 0 ≤ a) (hb : In99 b ∧ 0 ≤ b) : formL false (fo2 w) [w, wAt, numD a, wIs, numD b] = some [a, b] := by
  simp [formL, fo2, hw, nm _ ha, nm _ hb, wAt, wIs]
theorem fo3_fill {a b c : Int} (ha : In99 a ∧ 0 ≤ a) (hb : In99 b ∧ 0 ≤ b) (hc : In99 c ∧ 0 ≤ c) : formL false fo3 [wMe, wAt, numD a, wIs, numD b, wEr, numD c] = some [a, b, c] := by
  simp [formL, fo3, nm _ ha, nm _ hb, nm _ hc, wMe, wAt, wIs, wEr]
theorem foA_fill {a b c : Int} (ha : In99 a ∧ 0 ≤ a) (hb : In99 b ∧ 0 ≤ b) (hc : In99 c) : formL true foA [wAb, wAt, numD a, wOf, numD b, wIs, numD c] = some [a, b, c] := by
  simp [formL, foA, nm _ ha, nm _ hb, ns _ hc, wAb, wAt, wIs, wOf]
theorem foF_fill {a b c : Int} (ha : In99 a ∧ 0 ≤ a) (hb : In99 b ∧ 0 ≤ b) (hc : In99 c ∧ 0 ≤ c) : formL false foF [wFw, wAt, numD a, wYr, numD b, wIs, numD c] = some [a, b, c] := by
  simp [formL, foF, nm _ ha, nm _ hb, nm _ hc, wFw, wAt, wIs, wYr]
theorem foH_fill {a b : Int} (ha : In99 a ∧ 0 ≤ a) (hb : In99 b ∧ 0 ≤ b) : formL false foH [wE, numD a, wPs, wBd, numD b] = some [a, b] := by
  simp [formL, foH, nm _ ha, nm _ hb, wE, wPs, wBd]
theorem Cl.ext' {c d : Cl} (h1 : c.kind = d.kind) (h2 : c.point = d.point) (h3 : c.other = d.other) (h4 : c.off = d.off) (h5 : c.err = d.err) : c = d := by
  cases c; cases d; simp_all
theorem clR_line {c : Cl} (h : ClIn c) : clR (clW c) = some c := by
  obtain ⟨k1, k2⟩ := h.k
  have ha := h.a
  have ho := h.o
  have he := h.e
  unfold clW
  split
  · rename_i hk
    rw [if_neg (by omega)] at ho he
    unfold clR
    rw [List.headD_cons, if_pos rfl]
    unfold plR
    rw [fo2_fill wSt (by simp [wSt]) h.p ⟨ha.1, ha.2 (by omega)⟩]
    exact congrArg some (Cl.ext' hk.symm rfl ho.symm rfl he.symm)
  split
  · rename_i hk
    rw [if_neg (by omega)] at ho
    rw [if_pos hk] at he
    unfold clR
    rw [List.headD_cons, if_neg (by decide), if_pos rfl]
    unfold meR
    rw [fo3_fill h.p ⟨ha.1, ha.2 (by omega)⟩ he]
    exact congrArg some (Cl.ext' hk.symm rfl ho.symm rfl rfl)
  split
  · rename_i hk
    rw [if_neg (by omega)] at ho he
    unfold clR
    rw [List.headD_cons, if_neg (by decide), if_neg (by decide), if_pos rfl]
    unfold plR
    rw [fo2_fill wWi (by simp [wWi]) h.p ⟨ha.1, ha.2 (by omega)⟩]
    exact congrArg some (Cl.ext' hk.symm rfl ho.symm rfl he.symm)
  split
  · rename_i hk
    rw [if_neg (by omega)] at ho he
    unfold clR
    rw [List.headD_cons, if_neg (by decide), if_neg (by decide), if_neg (by decide), if_pos rfl]
    unfold plR
    rw [fo2_fill wBe (by simp [wBe]) h.p ⟨ha.1, ha.2 (by omega)⟩]
    exact congrArg some (Cl.ext' hk.symm rfl ho.symm rfl he.symm)
  · rename_i hk
    have hk5 : c.kind = 5 := by omega
    rw [if_pos hk5] at ho
    rw [if_neg (by omega)] at he
    unfold clR
    rw [List.headD_cons, if_neg (by decide), if_neg (by decide), if_neg (by decide), if_neg (by decide), if_pos rfl]
    unfold abR
    rw [foA_fill h.p ho ha.1]
    exact congrArg some (Cl.ext' hk5.symm rfl rfl rfl he.symm)
theorem fwR_line {f : Fu} (h : FuIn f) : fwR (fuW f) = some f := by
  unfold fwR fuW
  rw [foF_fill h.p h.y h.a]
  rfl
theorem len2 {l : List Int} (h : l.length = 2) : ∃ a b, l = [a, b] := by
  match l, h with
  | [a, b], _ => exact ⟨a, b, rfl⟩
theorem len3 {l : List Int} (h : l.length = 3) : ∃ a b c, l = [a, b, c] := by
  match l, h with
  | [a, b, c], _ => exact ⟨a, b, c, rfl⟩
theorem fo2_some {w : List UInt8} (hw : w ≠ []) {ws : List (List UInt8)} {l : List Int} (h : formL false (fo2 w) ws = some l) : ∃ a b, l = [a, b] ∧ ws = [w, wAt, numD a, wIs, numD b] := by
  obtain ⟨h1, h2, -⟩ := formL_some h
  obtain ⟨a, b, rfl⟩ := len2 (by rw [h2]; simp [fo2, hw, wAt, wIs])
  refine ⟨a, b, rfl, ?_⟩
  rw [h1]
  cases w with
  | nil => exact absurd rfl hw
  | cons x r => rfl
theorem fo3_some {ws : List (List UInt8)} {l : List Int} (h : formL false fo3 ws = some l) : ∃ a b c, l = [a, b, c] ∧ ws = [wMe, wAt, numD a, wIs, numD b, wEr, numD c] := by
  obtain ⟨h1, h2, -⟩ := formL_some h
  obtain ⟨a, b, c, rfl⟩ := len3 (by rw [h2]; decide)
  exact ⟨a, b, c, rfl, h1⟩
theorem foA_some {ws : List (List UInt8)} {l : List Int} (h : formL true foA ws = some l) : ∃ a b c, l = [a, b, c] ∧ ws = [wAb, wAt, numD a, wOf, numD b, wIs, numD c] := by
  obtain ⟨h1, h2, -⟩ := formL_some h
  obtain ⟨a, b, c, rfl⟩ := len3 (by rw [h2]; decide)
  exact ⟨a, b, c, rfl, h1⟩
theorem foF_some {ws : List (List UInt8)} {l : List Int} (h : formL false foF ws = some l) : ∃ a b c, l = [a, b, c] ∧ ws = [wFw, wAt, numD a, wYr, numD b, wIs, numD c] := by
  obtain ⟨h1, h2, -⟩ := formL_some h
  obtain ⟨a, b, c, rfl⟩ := len3 (by rw [h2]; decide)
  exact ⟨a, b, c, rfl, h1⟩
theorem foH_some {ws : List (List UInt8)} {l : List Int} (h : formL false foH ws = some l) : ∃ a b, l = [a, b] ∧ ws = [wE, numD a, wPs, wBd, numD b] := by
  obtain ⟨h1, h2, -⟩ := formL_some h
  obtain ⟨a, b, rfl⟩ := len2 (by rw [h2]; decide)
  exact ⟨a, b, rfl, h1⟩
theorem map_some {α β : Type} {o : Option α} {f : α → β} {b : β} (h : o.map f = some b) : ∃ a, o = some a ∧ b = f a := by
  cases o with
  | none => cases h
  | some a => injection h with h; exact ⟨a, rfl, h.symm⟩
theorem clR_some {ws : List (List UInt8)} {c : Cl} (h : clR ws = some c) : ws = clW c := by
  have pl : ∀ k w, w ≠ [] → plR k w ws = some c → ∃ a b, c = ⟨k, a, 0, b, 0⟩ ∧ ws = [w, wAt, numD a, wIs, numD b] := by
    intro k w hw h
    obtain ⟨l, h1, rfl⟩ := map_some h
    obtain ⟨a, b, rfl, h2⟩ := fo2_some hw h1
    exact ⟨a, b, rfl, h2⟩
  unfold clR at h
  split at h
  · obtain ⟨a, b, rfl, h2⟩ := pl 1 wSt (by simp [wSt]) h
    exact h2
  split at h
  · obtain ⟨l, h1, rfl⟩ := map_some h
    obtain ⟨a, b, d, rfl, h2⟩ := fo3_some h1
    exact h2
  split at h
  · obtain ⟨a, b, rfl, h2⟩ := pl 3 wWi (by simp [wWi]) h
    exact h2
  split at h
  · obtain ⟨a, b, rfl, h2⟩ := pl 4 wBe (by simp [wBe]) h
    exact h2
  split at h
  · obtain ⟨l, h1, rfl⟩ := map_some h
    obtain ⟨a, b, d, rfl, h2⟩ := foA_some h1
    exact h2
  · cases h
theorem fwR_some {ws : List (List UInt8)} {f : Fu} (h : fwR ws = some f) : ws = fuW f := by
  obtain ⟨l, h1, rfl⟩ := map_some h
  obtain ⟨a, b, c, rfl, h2⟩ := foF_some h1
  exact h2
theorem hdR_some {ws : List (List UInt8)} {m : Int × Int} (h : hdR ws = some m) : ws = hdW ⟨m.1, m.2, []⟩ := by
  obtain ⟨l, h1, rfl⟩ := map_some h
  obtain ⟨a, b, rfl, h2⟩ := foH_some h1
  exact h2
theorem clW_head (c : Cl) : (clW c).headD [] ≠ wFw := by
  unfold clW
  repeat' split
  all_goals (rw [List.headD_cons]; decide)
theorem join_ne {ws : List (List UInt8)} (h : 32 ∉ wEd) (h2 : 2 ≤ ws.length) : joinL 32 ws ≠ wEd := by
  intro e
  match ws, h2 with
  | a :: b :: r, _ =>
    refine h ?_
    rw [← e, joinL_flat]
    simp
theorem clLine_ne (c : Cl) : joinL 32 (clW c) ≠ wEd := by
  refine join_ne (by decide) ?_
  unfold clW
  repeat' split
  all_goals simp
theorem fuLine_ne (f : Fu) : joinL 32 (fuW f) ≠ wEd := join_ne (by decide) (by simp [fuW])
theorem takeG_fu : ∀ (fs : List Fu) (i : Nat) (x : Edg) (l : List Fu), 0 < i → (∀ f ∈ fs, FuIn f) → takeG [] i x l (fs.map (fun f => joinL 32 (fuW f)) ++ [wEd]) = .ok (x, l ++ fs)
  | [], i, x, l, hi, _ => by
    show takeG [] i x l [wEd] = _
    unfold takeG
    rw [if_neg (by omega), if_pos rfl, if_neg (by simp)]
    simp
  | f :: fs, i, x, l, hi, h => by
    rw [List.map_cons, List.cons_append]
    unfold takeG
    rw [if_neg (by omega), if_neg (fuLine_ne f), cut_fuW (h f (by simp)), if_pos (show (fuW f).headD [] = wFw from rfl), fwR_line (h f (by simp))]
    show takeG [] (i + 1) _ _ _ = _
    rw [takeG_fu fs (i + 1) _ _ (by omega) fun y hy => h y (by simp [hy])]
    simp
theorem takeG_run : ∀ (cs : List Cl) (fs : List Fu) (i : Nat) (x : Edg), 0 < i → (∀ c ∈ cs, ClIn c) → (∀ f ∈ fs, FuIn f) → takeG [] i x [] (mid cs fs ++ [wEd]) = .ok (⟨x.points, x.bend, x.claims ++ cs⟩, fs)
  | [], fs, i, x, hi, _, h2 => by
    have := takeG_fu fs i x [] hi h2
    simpa [mid] using this
  | c :: cs, fs, i, x, hi, h1, h2 => by
    have e : mid (c :: cs) fs ++ [wEd] = joinL 32 (clW c) :: (mid cs fs ++ [wEd]) := rfl
    rw [e]
    unfold takeG
    rw [if_neg (by omega), if_neg (clLine_ne c), cut_clW (h1 c (by simp)), if_neg (clW_head c), if_neg (by simp), clR_line (h1 c (by simp))]
    show takeG [] (i + 1) _ _ _ = _
    rw [takeG_run cs fs (i + 1) _ (by omega) (fun y hy => h1 y (by simp [hy])) h2]
    simp
theorem takeG_ok {fin : List UInt8} : ∀ (ls : List (List UInt8)) (i : Nat) (x : Edg) (l : List Fu) (y : Edg × List Fu), 0 < i → takeG fin i x l ls = .ok y → fin = [] ∧ ∃ cs fs, y = (⟨x.points, x.bend, x.claims ++ cs⟩, l ++ fs) ∧ ls = mid cs fs ++ [wEd] ∧ (l ≠ [] → cs = [])
  | [], i, x, l, y, _, h => by
    unfold takeG at h
    cases h
  | s :: r, i, x, l, y, hi, h => by
    unfold takeG at h
    rw [if_neg (by omega)] at h
    have hj := join_cut 32 s
    split at h
    · rename_i hs
      split at h
      · cases h
      · rename_i hn
        injection h with h
        have hr : r = [] := Decidable.byContradiction fun e => hn (.inl e)
        have hf : fin = [] := Decidable.byContradiction fun e => hn (.inr e)
        refine ⟨hf, [], [], by rw [← h]; simp, by rw [hr, hs]; rfl, fun _ => rfl⟩
    split at h
    · cases hv : fwR (cutL 32 s) with
      | none => rw [hv] at h; cases h
      | some f =>
        rw [hv] at h
        obtain ⟨h1, cs, fs, h2, h3, h4⟩ := takeG_ok r (i + 1) _ _ y (by omega) h
        have hcs := h4 (by simp)
        subst hcs
        refine ⟨h1, [], f :: fs, by rw [h2]; simp, ?_, fun _ => rfl⟩
        rw [h3, ← hj, fwR_some hv]
        rfl
    split at h
    · cases h
    · rename_i hl
      cases hv : clR (cutL 32 s) with
      | none => rw [hv] at h; cases h
      | some c =>
        rw [hv] at h
        obtain ⟨h1, cs, fs, h2, h3, h4⟩ := takeG_ok r (i + 1) _ _ y (by omega) h
        refine ⟨h1, c :: cs, fs, by rw [h2]; simp, ?_, fun e => absurd e hl⟩
        rw [h3, ← hj, clR_some hv]
        rfl
/-- What is read is what is written. -/
theorem takeR_ok {t : List UInt8} {x : Edg} {l : List Fu} (h : takeR (cutL 10 t) = .ok (x, l)) : t = edT numD x l := by
  unfold takeR at h
  have hj := join_cut 10 t
  have hne := cutL_ne 10 t
  generalize cutL 10 t = ls at h hj hne
  have hls : ls = ls.dropLast ++ [ls.getLastD []] := by
    rw [List.getLastD_eq_getLast?, List.getLast?_eq_some_getLast hne]
    exact (List.dropLast_concat_getLast hne).symm
  cases hb : ls.dropLast with
  | nil =>
    rw [hb] at h
    unfold takeG at h
    cases h
  | cons s r =>
    rw [hb] at h hls
    unfold takeG at h
    rw [if_pos rfl] at h
    cases hh : hdR (cutL 32 s) with
    | none => rw [hh] at h; cases h
    | some m =>
      rw [hh] at h
      obtain ⟨h1, cs, fs, h2, h3, h4⟩ := takeG_ok r 1 _ _ _ (by omega) h
      injection h2 with h2 h5
      have hs := join_cut 32 s
      rw [hdR_some hh] at hs
      rw [edT_eq, ← hj, hls, h1, h3, ← hs, h2, h5]
      simp [emptyX, hdW]
/-- What is written is read. -/
theorem takeR_edT {x : Edg} {l : List Fu} (h1 : In99 x.points ∧ 0 ≤ x.points) (h2 : In99 x.bend ∧ 0 ≤ x.bend) (hc : ∀ c ∈ x.claims, ClIn c) (hf : ∀ f ∈ l, FuIn f) : takeR (cutL 10 (edT numD x l)) = .ok (x, l) := by
  rw [edT_eq, cut_join (by simp) (by
    intro a ha
    rcases List.mem_cons.1 ha with rfl | ha
    · exact join_no (by decide) (hdW_no h1.1 h2.1 10 (by decide))
    · rcases List.mem_append.1 ha with ha | ha
      · rcases List.mem_append.1 ha with ha | ha
        · obtain ⟨c, hcm, rfl⟩ := List.mem_map.1 ha
          exact join_no (by decide) (clW_no (hc c hcm) 10 (by decide))
        · obtain ⟨f, hfm, rfl⟩ := List.mem_map.1 ha
          exact join_no (by decide) (fuW_no (hf f hfm) 10 (by decide))
      · simp only [List.mem_cons, List.not_mem_nil, or_false] at ha
        rcases ha with rfl | rfl
        · decide
        · simp)]
  unfold takeR
  have e : joinL 32 (hdW x) :: (mid x.claims l ++ [wEd, []]) = (joinL 32 (hdW x) :: (mid x.claims l ++ [wEd])) ++ [[]] := by simp
  rw [e, List.dropLast_concat, List.getLastD_concat]
  unfold takeG
  have hh : hdR (hdW x) = some (x.points, x.bend) := by
    unfold hdR hdW
    rw [foH_fill h1 h2]
    rfl
  rw [if_pos rfl, cut_join (by simp [hdW]) (hdW_no h1.1 h2.1 32 (by decide)), hh]
  show takeG [] 1 _ _ _ = _
  rw [takeG_run x.claims l 1 _ (by omega) hc hf]
  simp [emptyX]
theorem both_zero' {x : Edg} {l : List Fu} (h : bothX x l = 0) : x.Ok ∧ furX x.points l = 0 := by
  unfold bothX at h
  by_cases hc : checkX x = 0
  · rw [if_neg (not_not_intro hc)] at h
    exact ⟨checkX_zero.1 hc, h⟩
  · rw [if_pos hc] at h
    exact absurd h hc
theorem okV {x : Edg} {l : List Fu} (h : bothX x l = 0) : (In99 x.points ∧ 0 ≤ x.points) ∧ (In99 x.bend ∧ 0 ≤ x.bend) ∧ (∀ c ∈ x.claims, ClIn c) ∧ (∀ f ∈ l, FuIn f) ∧ x.claims.length ≤ 7 ∧ l.length ≤ 8 ∧ (∀ c ∈ x.claims, c.Ok x.points) := by
  obtain ⟨hok, hfx⟩ := both_zero' h
  obtain ⟨h8, hf, -⟩ := furX_zero.1 hfx
  obtain ⟨p1, p2⟩ := hok.p
  obtain ⟨b1, b2⟩ := hok.b
  exact ⟨⟨⟨by omega, by omega⟩, by omega⟩, ⟨⟨by omega, by omega⟩, by omega⟩, fun c hc => clIn_of p2 (hok.c c hc), fun f hfm => fuIn_of p2 (hf f hfm), hok.m, h8, hok.c⟩
theorem flat_le {α : Type} (n : Nat) (f : α → List UInt8) : ∀ l : List α, (∀ a ∈ l, (f a).length ≤ n) → (l.flatMap f).length ≤ n * l.length
  | [], _ => by simp
  | a :: l, h => by
    have h1 := h a (by simp)
    have h2 := flat_le n f l fun b hb => h b (by simp [hb])
    rw [List.length_cons, Nat.mul_succ]
    simp only [List.flatMap_cons, List.length_append]
    omega
theorem edT_len {x : Edg} {l : List Fu} (h : bothX x l = 0) : (edT numD x l).length ≤ 500 := by
  obtain ⟨h1, h2, h3, h4, h5, h6, h7⟩ := okV h
  have n1 := numD_len h1.1 (by omega)
  have n2 := numD_len h2.1 (by omega)
  have hcl := flat_le 27 (fun c => clT numD c ++ [10]) x.claims (by
    intro c hc
    have hi := h3 c hc
    have hk := h7 c hc
    have a1 := numD_len hi.p.1 (by have := hi.p.2; omega)
    have a2 := numD_len hi.a.1 (by have := hk.a; split at this <;> omega)
    have ho := hi.o
    have he := hi.e
    unfold clT
    split
    · simp; omega
    split
    · rename_i h2
      rw [if_pos h2] at he
      have a3 := numD_len he.1 (by have := he.2; omega)
      simp; omega
    split
    · simp; omega
    split
    · simp; omega
    · rw [if_pos (show c.kind = 5 by have := hi.k; omega)] at ho
      have a3 := numD_len ho.1 (by have := ho.2; omega)
      simp; omega)
  have hfu := flat_le 27 (fuT numD) l (by
    intro f hf
    have hi := h4 f hf
    have a1 := numD_len hi.p.1 (by have := hi.p.2; omega)
    have a2 := numD_len hi.y.1 (by have := hi.y.2; omega)
    have a3 := numD_len hi.a.1 (by have := hi.a.2; omega)
    unfold fuT
    simp; omega)
  unfold edT hdT
  simp only [List.length_append, List.length_cons, List.length_nil] at hcl hfu ⊢
  omega
theorem read_written {x : Edg} {l : List Fu} (h : bothX x l = 0) : readR (edT numD x l) = ⟨x, l, 0, 0⟩ := by
  obtain ⟨h1, h2, h3, h4, -⟩ := okV h
  unfold readR
  rw [if_neg (by have := edT_len h; omega), takeR_edT h1 h2 h3 h4]
  show (if bothX x l = 0 then _ else _) = _
  rw [if_pos h]
theorem written_read {t : List UInt8} (h : (readR t).e = 0) : bothX (readR t).x (readR t).l = 0 ∧ t = edT numD (readR t).x (readR t).l := by
  unfold readR at h ⊢
  split at h
  · cases h
  · rename_i hl
    rw [if_neg hl]
    cases ht : takeR (cutL 10 t) with
    | error k => rw [ht] at h; cases h
    | ok m =>
      rw [ht] at h
      have h : (if bothX m.1 m.2 = 0 then (⟨m.1, m.2, 0, 0⟩ : RdO) else ⟨emptyX, [], 0, bothX m.1 m.2⟩).e = 0 := h
      by_cases hb : bothX m.1 m.2 = 0
      · have e : (if bothX m.1 m.2 = 0 then (⟨m.1, m.2, 0, 0⟩ : RdO) else ⟨emptyX, [], 0, bothX m.1 m.2⟩) = ⟨m.1, m.2, 0, 0⟩ := if_pos hb
        show bothX (if bothX m.1 m.2 = 0 then (⟨m.1, m.2, 0, 0⟩ : RdO) else ⟨emptyX, [], 0, bothX m.1 m.2⟩).x (if bothX m.1 m.2 = 0 then (⟨m.1, m.2, 0, 0⟩ : RdO) else ⟨emptyX, [], 0, bothX m.1 m.2⟩).l = 0 ∧ t = edT numD (if bothX m.1 m.2 = 0 then (⟨m.1, m.2, 0, 0⟩ : RdO) else ⟨emptyX, [], 0, bothX m.1 m.2⟩).x (if bothX m.1 m.2 = 0 then (⟨m.1, m.2, 0, 0⟩ : RdO) else ⟨emptyX, [], 0, bothX m.1 m.2⟩).l
        rw [e]
        exact ⟨hb, takeR_ok (x := m.1) (l := m.2) ht⟩
      · rw [if_neg hb] at h
        exact absurd h hb

end Go.Proofs.YtbpfhoihfoojfaaGreatDoor
