/- Groups of at most seven claims in plain words: as masks and as lists, the order in which they come, and the first that passes a test; conditions: as said. -/
namespace Go.Proofs.Ytgdifckmjdjcpaa

/-- The members of a mask, ascending. -/
def maskL (g : Nat) : List Nat := (List.range 16).filter fun i => g.testBit i
def cmpL : List Nat → List Nat → Int
  | [], [] => 0
  | [], _ :: _ => -1
  | _ :: _, [] => 1
  | a :: l, b :: m => if a < b then -1 else if b < a then 1 else cmpL l m
def sizeG (g : Nat) : Nat := (maskL g).length
def cmpN (a b : Nat) : Int := if a < b then -1 else if b < a then 1 else 0
/-- How two groups are compared: by size, then by their lists. -/
def cmpG (a b : Nat) : Int := if cmpN (sizeG a) (sizeG b) ≠ 0 then cmpN (sizeG a) (sizeG b) else cmpL (maskL a) (maskL b)

/-- All ascending lists of so many numbers from first to n - 1. -/
def groupsF (n : Nat) : Nat → Nat → List (List Nat)
  | 0, _ => [[]]
  | many + 1, first => (List.range (n - first)).flatMap fun i => (groupsF n many (first + i + 1)).map fun r => (first + i) :: r
def maskOf (l : List Nat) : Nat := l.foldl (fun g i => g + 2 ^ i) 0
/-- All masks of n, in the order in which they are compared. -/
def masksF (n : Nat) : List Nat := (List.range (n + 1)).flatMap fun many => (groupsF n many 0).map maskOf

def okM (n : Nat) : Bool := (masksF n).length == 2 ^ n && (List.range (2 ^ n)).all (fun g => (masksF n).contains g) && (masksF n).all (fun g => g < 2 ^ n)
def okS (n : Nat) : Bool := go (masksF n)
where go : List Nat → Bool
  | [] => true
  | a :: l => l.all (fun b => cmpG a b == -1 && cmpG b a == 1) && go l
def okG (n : Nat) : Bool := (List.range (n + 1)).all fun many => (groupsF n many 0).all fun l => maskL (maskOf l) == l
theorem masks_facts : ∀ n : Fin 8, okM n = true ∧ okS n = true ∧ okG n = true := by decide +kernel

theorem mem_masks {n g : Nat} (hn : n ≤ 7) (hg : g < 2 ^ n) : g ∈ masksF n := by
  have h := (masks_facts ⟨n, by omega⟩).1
  unfold okM at h
  simp only [Bool.and_eq_true, List.all_eq_true, List.mem_range] at h
  simpa using h.1.2 g hg
theorem masks_lt {n g : Nat} (hn : n ≤ 7) (hg : g ∈ masksF n) : g < 2 ^ n := by
  have h := (masks_facts ⟨n, by omega⟩).1
  unfold okM at h
  simp only [Bool.and_eq_true, List.all_eq_true] at h
  simpa using h.2 g hg
theorem okS_go : ∀ {l : List Nat}, okS.go l = true → l.Pairwise fun a b => cmpG a b = -1 ∧ cmpG b a = 1
  | [], _ => .nil
  | a :: l, h => by
    unfold okS.go at h
    rw [Bool.and_eq_true, List.all_eq_true] at h
    refine .cons (fun b hb => ?_) (okS_go h.2)
    have := h.1 b hb
    rw [Bool.and_eq_true, beq_iff_eq, beq_iff_eq] at this
    exact this
theorem masks_sorted {n : Nat} (hn : n ≤ 7) : (masksF n).Pairwise fun a b => cmpG a b = -1 ∧ cmpG b a = 1 := okS_go (masks_facts ⟨n, by omega⟩).2.1
theorem maskL_maskOf {n many : Nat} {l : List Nat} (hn : n ≤ 7) (hm : many ≤ n) (hl : l ∈ groupsF n many 0) : maskL (maskOf l) = l := by
  have h := (masks_facts ⟨n, by omega⟩).2.2
  unfold okG at h
  simp only [List.all_eq_true, List.mem_range] at h
  have := h many (by show many < n + 1; omega) l hl
  simpa using this

theorem cmpG_self (g : Nat) : cmpG g g = 0 := by
  have h : ∀ l : List Nat, cmpL l l = 0 := by
    intro l
    induction l with
    | nil => rfl
    | cons a l ih => unfold cmpL; rw [if_neg (Nat.lt_irrefl _), if_neg (Nat.lt_irrefl _), ih]
  unfold cmpG
  have : cmpN (sizeG g) (sizeG g) = 0 := by unfold cmpN; rw [if_neg (Nat.lt_irrefl _), if_neg (Nat.lt_irrefl _)]
  rw [if_neg (not_not_intro this), h]

/-- The first group that passes. -/
def fewF (n : Nat) (test : Nat → Bool) : Option Nat := (masksF n).find? test

/-- What fewest holds after the masks below g. -/
structure Best (n : Nat) (test : Nat → Bool) (g : Nat) (b : Nat) (some : Bool) : Prop where
  no : some = false → b = 0 ∧ ∀ h < g, test h = false
  yes : some = true → b < g ∧ test b = true ∧ ∀ h < g, test h = true → h ≠ b → cmpG h b = 1

theorem cmp_total {n a b : Nat} (hn : n ≤ 7) (ha : a < 2 ^ n) (hb : b < 2 ^ n) (h : a ≠ b) : (cmpG a b = -1 ∧ cmpG b a = 1) ∨ (cmpG a b = 1 ∧ cmpG b a = -1) := by
  have h1 := masks_sorted hn
  have ha := mem_masks hn ha
  have hb := mem_masks hn hb
  obtain ⟨i, hi, rfl⟩ := List.getElem_of_mem ha
  obtain ⟨j, hj, rfl⟩ := List.getElem_of_mem hb
  rcases Nat.lt_trichotomy i j with h2 | rfl | h2
  · exact .inl (List.pairwise_iff_getElem.1 h1 i j hi hj h2)
  · exact absurd rfl h
  · have := List.pairwise_iff_getElem.1 h1 j i hj hi h2
    exact .inr ⟨this.2, this.1⟩
theorem cmp_trans {n a b c : Nat} (hn : n ≤ 7) (ha : a < 2 ^ n) (hb : b < 2 ^ n) (hc : c < 2 ^ n) (h : cmpG a b = -1) (g : cmpG b c = -1) : cmpG a c = -1 := by
  have h1 := masks_sorted hn
  have ha := mem_masks hn ha
  have hb := mem_masks hn hb
  have hc := mem_masks hn hc
  obtain ⟨i, hi, rfl⟩ := List.getElem_of_mem ha
  obtain ⟨j, hj, rfl⟩ := List.getElem_of_mem hb
  obtain ⟨k, hk, rfl⟩ := List.getElem_of_mem hc
  have key : ∀ i j (hi : i < (masksF n).length) (hj : j < (masksF n).length), cmpG (masksF n)[i] (masksF n)[j] = -1 → i < j := by
    intro i j hi hj h
    rcases Nat.lt_trichotomy i j with h2 | rfl | h2
    · exact h2
    · rw [cmpG_self] at h; exact absurd h (by decide)
    · have := List.pairwise_iff_getElem.1 h1 j i hj hi h2
      rw [this.2] at h; exact absurd h (by decide)
  have a1 := key i j hi hj h
  have a2 := key j k hj hk g
  exact (List.pairwise_iff_getElem.1 h1 i k hi hk (by omega)).1

theorem Best.start (n : Nat) (test : Nat → Bool) : Best n test 0 0 false := ⟨fun _ => ⟨rfl, fun h hh => by omega⟩, fun h => absurd h (by decide)⟩
theorem Best.skip {n : Nat} {test : Nat → Bool} {g b : Nat} (hn : n ≤ 7) (hg : g < 2 ^ n) (h : Best n test g b true) (hc : 0 ≤ cmpG g b) : Best n test (g + 1) b true := by
  obtain ⟨h1, h2, h3⟩ := h.yes rfl
  refine ⟨fun e => absurd e (by decide), fun _ => ⟨by omega, h2, fun x hx ht hne => ?_⟩⟩
  by_cases e : x = g
  · subst e
    rcases cmp_total hn hg (show b < 2 ^ n by omega) hne with k | k
    · omega
    · exact k.1
  · exact h3 x (by omega) ht hne
theorem Best.fail {n : Nat} {test : Nat → Bool} {g b : Nat} {s : Bool} (h : Best n test g b s) (ht : test g = false) : Best n test (g + 1) b s := by
  refine ⟨fun e => ⟨(h.no e).1, fun x hx => ?_⟩, fun e => ?_⟩
  · by_cases e' : x = g
    · subst e'; exact ht
    · exact (h.no e).2 x (by omega)
  · obtain ⟨h1, h2, h3⟩ := h.yes e
    refine ⟨by omega, h2, fun x hx hxt hne => ?_⟩
    by_cases e' : x = g
    · subst e'; rw [ht] at hxt; exact absurd hxt (by decide)
    · exact h3 x (by omega) hxt hne
theorem Best.take {n : Nat} {test : Nat → Bool} {g b : Nat} {s : Bool} (hn : n ≤ 7) (hg : g < 2 ^ n) (h : Best n test g b s) (ht : test g = true) (hc : s = true → cmpG g b < 0) : Best n test (g + 1) g true := by
  refine ⟨fun e => absurd e (by decide), fun _ => ⟨by omega, ht, fun x hx hxt hne => ?_⟩⟩
  cases s with
  | false =>
    have := (h.no rfl).2 x (by omega)
    rw [this] at hxt; exact absurd hxt (by decide)
  | true =>
    obtain ⟨h1, h2, h3⟩ := h.yes rfl
    have hgb : cmpG g b = -1 := by
      rcases cmp_total hn hg (show b < 2 ^ n by omega) (by omega) with k | k
      · exact k.1
      · have := hc rfl; omega
    by_cases e : x = b
    · subst e
      rcases cmp_total hn hg (show x < 2 ^ n by omega) (fun e => hne e.symm) with k | k
      · exact k.2
      · omega
    · have hxb := h3 x (by omega) hxt e
      have hbx : cmpG b x = -1 := by
        rcases cmp_total hn (show x < 2 ^ n by omega) (show b < 2 ^ n by omega) e with k | k
        · omega
        · exact k.2
      have hgx := cmp_trans hn hg (show b < 2 ^ n by omega) (show x < 2 ^ n by omega) hgb hbx
      rcases cmp_total hn (show x < 2 ^ n by omega) hg hne with k | k
      · omega
      · exact k.1
theorem Best.done {n : Nat} {test : Nat → Bool} {b : Nat} {s : Bool} (hn : n ≤ 7) (h : Best n test (2 ^ n) b s) : fewF n test = if s = true then some b else none := by
  unfold fewF
  cases s with
  | false =>
    rw [if_neg (by decide)]
    refine List.find?_eq_none.2 fun x hx => ?_
    rw [(h.no rfl).2 x (masks_lt hn hx)]
    decide
  | true =>
    obtain ⟨h1, h2, h3⟩ := h.yes rfl
    rw [if_pos rfl]
    obtain ⟨i, hi, e⟩ := List.getElem_of_mem (mem_masks hn h1)
    rw [List.find?_eq_some_iff_getElem]
    refine ⟨h2, i, hi, e, fun j hj => ?_⟩
    cases ht : test (masksF n)[j] with
    | false => rfl
    | true =>
      have hs := List.pairwise_iff_getElem.1 (masks_sorted hn) j i (by omega) hi hj
      rw [e] at hs
      have hne : (masksF n)[j] ≠ b := by
        intro e'
        rw [e', cmpG_self] at hs
        exact absurd hs.1 (by decide)
      have := h3 _ (masks_lt hn (List.getElem_mem _)) ht hne
      omega

/-- The same by lists: for each size, all lists of that size in their order. -/
theorem few_groups {n : Nat} {test : Nat → Bool} {many : Nat} {l : List Nat} (_hn : n ≤ 7) (hm : many ≤ n) {a b : List (List Nat)} (hl : groupsF n many 0 = a ++ l :: b)
    (h0 : ∀ m < many, ∀ x ∈ groupsF n m 0, test (maskOf x) = false) (h1 : ∀ x ∈ a, test (maskOf x) = false) (h2 : test (maskOf l) = true) : fewF n test = some (maskOf l) := by
  have hsplit : masksF n = ((List.range many).flatMap fun m => (groupsF n m 0).map maskOf) ++ ((a.map maskOf ++ maskOf l :: b.map maskOf) ++ ((List.range' (many + 1) (n - many)).flatMap fun m => (groupsF n m 0).map maskOf)) := by
    unfold masksF
    rw [show n + 1 = many + (1 + (n - many)) by omega, List.range_add, List.flatMap_append]
    congr 1
    rw [← List.range'_eq_map_range, ← List.range'_append_1 (s := many) (m := 1) (n := n - many), List.flatMap_append]
    congr 1
    simp [hl]
  unfold fewF
  rw [hsplit, List.find?_append, List.find?_eq_none.2 ?_, Option.none_or, List.find?_append, List.find?_append, List.find?_eq_none.2 ?_, Option.none_or, List.find?_cons_of_pos h2]
  · rfl
  · intro x hx
    obtain ⟨y, hy, rfl⟩ := List.mem_map.1 hx
    rw [h1 y hy]; decide
  · intro x hx
    obtain ⟨m, hm', hx⟩ := List.mem_flatMap.1 hx
    obtain ⟨y, hy, rfl⟩ := List.mem_map.1 hx
    rw [h0 m (List.mem_range.1 hm') y hy]; decide
theorem few_none {n : Nat} {test : Nat → Bool} (h0 : ∀ m ≤ n, ∀ x ∈ groupsF n m 0, test (maskOf x) = false) : fewF n test = none := by
  unfold fewF
  refine List.find?_eq_none.2 fun x hx => ?_
  unfold masksF at hx
  obtain ⟨m, hm', hx⟩ := List.mem_flatMap.1 hx
  obtain ⟨y, hy, rfl⟩ := List.mem_map.1 hx
  rw [h0 m (by have := List.mem_range.1 hm'; omega) y hy]; decide

end Go.Proofs.Ytgdifckmjdjcpaa
