/- The plain law of reading commons: what is written is read, what is read is what is written; conditions: as said at each. -/
import Derived.Test.YtmlikgjfpmjdcaaGreatDoorLwr
import Derived.Test.YtmlikgjfpmjdcaaGreatDoorRdP
namespace Go.Proofs.YtmlikgjfpmjdcaaGreatDoor

def wM : List UInt8 := [109, 111, 117, 110, 116, 97, 105, 110, 115]
def wV : List UInt8 := [118, 105, 108, 108, 97, 103, 101]
def wH : List UInt8 := [104, 101, 97, 114, 116, 104, 115]
def wD : List UInt8 := [104, 101, 97, 100, 115]
def wL : List UInt8 := [108, 105, 107, 101, 115]
def wS : List UInt8 := [115, 104, 97, 114, 101, 100]
/-- The numbers of words. -/
def numsL : List (List UInt8) → Option (List Int)
  | [] => some []
  | a :: r => match numL a, numsL r with
    | some n, some l => some (n :: l)
    | _, _ => none
def listR (ws : List (List UInt8)) : Option (List Int) := if ws = [] then none else numsL ws
def headR : List (List UInt8) → Option (List Int)
  | a :: r => if a = wM then listR r else none
  | [] => none
def vilR : List (List UInt8) → Option Vil
  | a :: h :: b :: d :: e :: f :: r => if a = wV ∧ b = wH ∧ e = wD ∧ f = wL then (match numL h, numL d, listR r with
    | some x, some y, some l => some ⟨x, y, l⟩
    | _, _, _ => none) else none
  | _ => none
/-- Taking lines: those ahead of the last one, from the i-th on; the commons so far. -/
def takeG (fin : List UInt8) : Nat → Com → List (List UInt8) → Except Nat Com
  | i, _, [] => .error (i + 1)
  | i, c, s :: r =>
    if i = 0 then (match headR (cutL 32 s) with
      | none => .error (i + 1)
      | some m => takeG fin (i + 1) ⟨m, c.villages⟩ r)
    else if s = wS then (if r ≠ [] ∨ fin ≠ [] then .error (i + 2) else .ok c)
    else match vilR (cutL 32 s) with
      | none => .error (i + 1)
      | some v => takeG fin (i + 1) ⟨c.mountains, c.villages ++ [v]⟩ r
def emptyC : Com := ⟨[], []⟩
def takeR (ls : List (List UInt8)) : Except Nat Com := takeG (ls.getLastD []) 0 emptyC ls.dropLast
/-- Reading. -/
def readR (t : List UInt8) : Com × Int × Int :=
  if 400 < t.length then (emptyC, 0, 10)
  else match takeR (cutL 10 t) with
    | .error n => (emptyC, n, 2)
    | .ok c => if checkE c = 0 then (c, 0, 0) else (emptyC, 0, checkE c)

def numD (i : Int) : List UInt8 := Lib.decDigits i.toNat
def In99 (i : Int) : Prop := 0 ≤ i ∧ i < 100
theorem numsL_some : ∀ {ws : List (List UInt8)} {l : List Int}, numsL ws = some l → ws = l.map numD ∧ ∀ n ∈ l, In99 n
  | [], l, h => by
    injection h with h
    subst h
    exact ⟨rfl, by simp⟩
  | a :: r, l, h => by
    unfold numsL at h
    cases ha : numL a with
    | none => rw [ha] at h; cases h
    | some n =>
      cases hr : numsL r with
      | none => rw [ha, hr] at h; cases h
      | some l' =>
        rw [ha, hr] at h
        injection h with h
        subst h
        obtain ⟨h1, h2⟩ := numsL_some hr
        obtain ⟨n1, n2, n3⟩ := numL_some ha
        refine ⟨by rw [List.map_cons, ← h1]; exact congrArg (· :: r) n3, fun k hk => ?_⟩
        rcases List.mem_cons.1 hk with rfl | hk
        · exact ⟨n1, n2⟩
        · exact h2 k hk
theorem numL_numD {i : Int} (h : In99 i) : numL (numD i) = some i := by
  unfold numD
  rw [numL_dec (by have := h.1; have := h.2; omega)]
  have := h.1
  simp; omega
theorem numsL_map : ∀ {l : List Int}, (∀ n ∈ l, In99 n) → numsL (l.map numD) = some l
  | [], _ => rfl
  | n :: l, h => by
    rw [List.map_cons]
    unfold numsL
    rw [numL_numD (h n (by simp)), numsL_map fun k hk => h k (by simp [hk])]
theorem listR_some {ws : List (List UInt8)} {l : List Int} (h : listR ws = some l) : ws = l.map numD ∧ (∀ n ∈ l, In99 n) ∧ l ≠ [] := by
  unfold listR at h
  split at h
  · cases h
  · rename_i hn
    obtain ⟨h1, h2⟩ := numsL_some h
    refine ⟨h1, h2, fun e => hn ?_⟩
    rw [h1, e]; rfl
theorem listR_map {l : List Int} (h : ∀ n ∈ l, In99 n) (hn : l ≠ []) : listR (l.map numD) = some l := by
  unfold listR
  rw [if_neg (by simpa using hn), numsL_map h]
theorem joinL_flat (c : UInt8) (a : List UInt8) : ∀ r : List (List UInt8), joinL c (a :: r) = a ++ r.flatMap (fun x => c :: x)
  | [] => by simp [joinL]
  | b :: r => by
    rw [joinL_cons c a (by simp), joinL_flat c b r]
    simp
/-- A line of numbers behind a word. -/
def hdLine (m : List Int) : List UInt8 := joinL 32 (wM :: m.map numD)
def vlLine (v : Vil) : List UInt8 := joinL 32 (wV :: numD v.hearths :: wH :: numD v.herd :: wD :: wL :: v.likes.map numD)
theorem lsT_eq (l : List Int) : lsT numD l = (l.map numD).flatMap (fun x => 32 :: x) ++ [10] := by
  unfold lsT
  rw [List.flatMap_map]
  rfl
theorem hdLine_eq (m : List Int) : hdLine m ++ [10] = [109, 111, 117, 110, 116, 97, 105, 110, 115] ++ lsT numD m := by
  unfold hdLine
  rw [joinL_flat, lsT_eq, List.append_assoc]
  rfl
theorem vlLine_eq (v : Vil) : vlLine v ++ [10] = vlT numD v := by
  unfold vlLine vlT
  rw [joinL_flat, lsT_eq]
  simp [wV, wH, wD, wL]
theorem cmT_eq (c : Com) : cmT numD c = joinL 10 (hdLine c.mountains :: (c.villages.map vlLine ++ [wS, []])) := by
  rw [joinL_flat]
  unfold cmT
  rw [← hdLine_eq]
  have key : ∀ vs : List Vil, [10] ++ (vs.flatMap (vlT numD) ++ [115, 104, 97, 114, 101, 100, 10]) = (vs.map vlLine ++ [wS, []]).flatMap (fun x => 10 :: x) := by
    intro vs
    induction vs with
    | nil => simp [wS]
    | cons v vs ih =>
      simp only [List.flatMap_cons, List.map_cons, List.cons_append]
      rw [← ih, ← vlLine_eq]
      simp
  rw [← key, List.append_assoc, List.append_assoc]
theorem numD_mem {i : Int} (h : In99 i) : ∀ x ∈ numD i, 48 ≤ x.toNat ∧ x.toNat ≤ 57 := by
  have : ∀ u < 100, ∀ x ∈ Lib.decDigits u, 48 ≤ x.toNat ∧ x.toNat ≤ 57 := by decide +kernel
  exact this i.toNat (by have := h.1; have := h.2; omega)
theorem numD_len {i : Int} (h : In99 i) : (numD i).length ≤ 2 := by
  have : ∀ u < 100, (Lib.decDigits u).length ≤ 2 := by decide +kernel
  exact this i.toNat (by have := h.1; have := h.2; omega)
theorem numD_no {i : Int} (h : In99 i) {c : UInt8} (hc : c.toNat < 48) : c ∉ numD i := fun hm => by
  have := (numD_mem h c hm).1
  omega
theorem join_no {c d : UInt8} (hcd : c ≠ d) : ∀ {ls : List (List UInt8)}, (∀ a ∈ ls, c ∉ a) → c ∉ joinL d ls
  | [], _ => by simp [joinL]
  | a :: r, h => by
    rw [joinL_flat]
    intro hm
    rcases List.mem_append.1 hm with hm | hm
    · exact h a (by simp) hm
    · obtain ⟨x, hx, hm⟩ := List.mem_flatMap.1 hm
      rcases List.mem_cons.1 hm with e | hm
      · exact hcd e
      · exact h x (by simp [hx]) hm
theorem hd_words {m : List Int} (h : ∀ n ∈ m, In99 n) (c : UInt8) (hc : c.toNat < 48) : ∀ a ∈ wM :: m.map numD, c ∉ a := by
  intro a ha
  rcases List.mem_cons.1 ha with rfl | ha
  · have : ∀ x ∈ wM, 48 ≤ x.toNat := by decide
    exact fun hm => by have := this c hm; omega
  · obtain ⟨n, hn, rfl⟩ := List.mem_map.1 ha
    exact numD_no (h n hn) hc
theorem vl_words {v : Vil} (h1 : In99 v.hearths) (h2 : In99 v.herd) (h : ∀ n ∈ v.likes, In99 n) (c : UInt8) (hc : c.toNat < 48) : ∀ a ∈ wV :: numD v.hearths :: wH :: numD v.herd :: wD :: wL :: v.likes.map numD, c ∉ a := by
  have tV : ∀ x ∈ wV, 48 ≤ x.toNat := by decide
  have tH : ∀ x ∈ wH, 48 ≤ x.toNat := by decide
  have tD : ∀ x ∈ wD, 48 ≤ x.toNat := by decide
  have tL : ∀ x ∈ wL, 48 ≤ x.toNat := by decide
  intro a ha
  simp only [List.mem_cons] at ha
  rcases ha with rfl | rfl | rfl | rfl | rfl | rfl | ha
  · exact fun hm => by have := tV c hm; omega
  · exact numD_no h1 hc
  · exact fun hm => by have := tH c hm; omega
  · exact numD_no h2 hc
  · exact fun hm => by have := tD c hm; omega
  · exact fun hm => by have := tL c hm; omega
  · obtain ⟨n, hn, rfl⟩ := List.mem_map.1 ha
    exact numD_no (h n hn) hc
theorem headR_line {m : List Int} (h : ∀ n ∈ m, In99 n) (hn : m ≠ []) : headR (cutL 32 (hdLine m)) = some m := by
  unfold hdLine
  rw [cut_join (by simp) (hd_words h 32 (by decide))]
  show (if wM = wM then listR (m.map numD) else none) = some m
  rw [if_pos rfl, listR_map h hn]
/-- Of what is in range. -/
def VlOk (v : Vil) : Prop := In99 v.hearths ∧ In99 v.herd ∧ (∀ n ∈ v.likes, In99 n) ∧ v.likes ≠ []
theorem vilR_line {v : Vil} (h : VlOk v) : vilR (cutL 32 (vlLine v)) = some v := by
  obtain ⟨h1, h2, h3, h4⟩ := h
  unfold vlLine
  rw [cut_join (by simp) (vl_words h1 h2 h3 32 (by decide))]
  simp [vilR, numL_numD h1, numL_numD h2, listR_map h3 h4]
theorem headR_some {s : List UInt8} {m : List Int} (h : headR (cutL 32 s) = some m) : s = hdLine m ∧ (∀ n ∈ m, In99 n) ∧ m ≠ [] := by
  have hj := join_cut 32 s
  cases hc : cutL 32 s with
  | nil => exact absurd hc (cutL_ne _ _)
  | cons a r =>
    rw [hc] at h hj
    have h : (if a = wM then listR r else none) = some m := h
    by_cases ha : a = wM
    · rw [if_pos ha] at h
      obtain ⟨h1, h2, h3⟩ := listR_some h
      refine ⟨?_, h2, h3⟩
      rw [← hj, ha, h1]
      rfl
    · rw [if_neg ha] at h
      cases h
theorem vilR_some {s : List UInt8} {v : Vil} (h : vilR (cutL 32 s) = some v) : s = vlLine v ∧ VlOk v := by
  have hj := join_cut 32 s
  generalize cutL 32 s = ws at h hj
  unfold vilR at h
  split at h
  · rename_i a h' b d e f r
    split at h
    · rename_i hc
      obtain ⟨rfl, rfl, rfl, rfl⟩ := hc
      cases hx : numL h' with
      | none => rw [hx] at h; cases h
      | some x =>
        cases hy : numL d with
        | none => rw [hx, hy] at h; cases h
        | some y =>
          cases hl : listR r with
          | none => rw [hx, hy, hl] at h; cases h
          | some l =>
            rw [hx, hy, hl] at h
            injection h with h
            subst h
            obtain ⟨x1, x2, x3⟩ := numL_some hx
            obtain ⟨y1, y2, y3⟩ := numL_some hy
            obtain ⟨l1, l2, l3⟩ := listR_some hl
            refine ⟨?_, ⟨x1, x2⟩, ⟨y1, y2⟩, l2, l3⟩
            rw [← hj, x3, y3, l1]
            rfl
    · cases h
  · cases h
theorem vlLine_ne (v : Vil) : vlLine v ≠ wS := by
  unfold vlLine
  rw [joinL_flat]
  intro e
  have := congrArg List.head? e
  simp [wV, wS] at this
theorem takeG_run : ∀ (vs : List Vil) (i : Nat) (c : Com), 0 < i → (∀ v ∈ vs, VlOk v) → takeG [] i c (vs.map vlLine ++ [wS]) = .ok ⟨c.mountains, c.villages ++ vs⟩
  | [], i, c, hi, _ => by
    show takeG [] i c [wS] = _
    unfold takeG
    rw [if_neg (by omega), if_pos rfl, if_neg (by simp)]
    simp
  | v :: vs, i, c, hi, h => by
    rw [List.map_cons, List.cons_append]
    unfold takeG
    rw [if_neg (by omega), if_neg (vlLine_ne v), vilR_line (h v (by simp))]
    show takeG [] (i + 1) _ _ = _
    rw [takeG_run vs (i + 1) _ (by omega) fun x hx => h x (by simp [hx])]
    simp
theorem takeG_ok {fin : List UInt8} : ∀ (ls : List (List UInt8)) (i : Nat) (c c' : Com), 0 < i → takeG fin i c ls = .ok c' → fin = [] ∧ ∃ vs, c' = ⟨c.mountains, c.villages ++ vs⟩ ∧ ls = vs.map vlLine ++ [wS] ∧ ∀ v ∈ vs, VlOk v
  | [], i, c, c', _, h => by
    unfold takeG at h
    cases h
  | s :: r, i, c, c', hi, h => by
    unfold takeG at h
    rw [if_neg (by omega)] at h
    split at h
    · rename_i hs
      split at h
      · cases h
      · rename_i hn
        injection h with h
        have hr : r = [] := Decidable.byContradiction fun e => hn (.inl e)
        have hf : fin = [] := Decidable.byContradiction fun e => hn (.inr e)
        exact ⟨hf, [], by rw [← h]; simp, by rw [hr, hs]; rfl, by simp⟩
    · cases hv : vilR (cutL 32 s) with
      | none => rw [hv] at h; cases h
      | some v =>
        rw [hv] at h
        obtain ⟨h1, vs, h2, h3, h4⟩ := takeG_ok r (i + 1) _ c' (by omega) h
        obtain ⟨v1, v2⟩ := vilR_some hv
        refine ⟨h1, v :: vs, by rw [h2]; simp, by rw [h3, v1]; rfl, fun x hx => ?_⟩
        rcases List.mem_cons.1 hx with rfl | hx
        · exact v2
        · exact h4 x hx
/-- What is read is what is written. -/
theorem takeR_ok {t : List UInt8} {c : Com} (h : takeR (cutL 10 t) = .ok c) : t = cmT numD c := by
  unfold takeR at h
  have hj := join_cut 10 t
  have hne := cutL_ne 10 t
  generalize cutL 10 t = ls at h hj hne
  have hls : ls = ls.dropLast ++ [ls.getLastD []] := by
    rw [List.getLastD_eq_getLast?, List.getLast?_eq_some_getLast hne]
    exact (List.dropLast_concat_getLast hne).symm
  cases hb : ls.dropLast with
  | nil =>
    rw [hb] at h
    unfold takeG at h
    cases h
  | cons s r =>
    rw [hb] at h hls
    unfold takeG at h
    rw [if_pos rfl] at h
    cases hh : headR (cutL 32 s) with
    | none => rw [hh] at h; cases h
    | some m =>
      rw [hh] at h
      obtain ⟨h1, vs, h2, h3, h4⟩ := takeG_ok r 1 _ c (by omega) h
      obtain ⟨s1, s2, s3⟩ := headR_some hh
      rw [cmT_eq, h2, ← hj, hls, h1, h3, s1]
      simp [emptyC]
/-- What is written is read. -/
theorem takeR_cmT {c : Com} (hm : ∀ n ∈ c.mountains, In99 n) (hn : c.mountains ≠ []) (hv : ∀ v ∈ c.villages, VlOk v) : takeR (cutL 10 (cmT numD c)) = .ok c := by
  rw [cmT_eq, cut_join (by simp) (by
    intro a ha
    rcases List.mem_cons.1 ha with rfl | ha
    · exact join_no (by decide) (hd_words hm 10 (by decide))
    · rcases List.mem_append.1 ha with ha | ha
      · obtain ⟨v, hvm, rfl⟩ := List.mem_map.1 ha
        obtain ⟨h1, h2, h3, _⟩ := hv v hvm
        exact join_no (by decide) (vl_words h1 h2 h3 10 (by decide))
      · simp only [List.mem_cons, List.not_mem_nil, or_false] at ha
        rcases ha with rfl | rfl
        · decide
        · simp)]
  unfold takeR
  have e : hdLine c.mountains :: (c.villages.map vlLine ++ [wS, []]) = (hdLine c.mountains :: (c.villages.map vlLine ++ [wS])) ++ [[]] := by simp
  rw [e, List.dropLast_concat, List.getLastD_concat]
  unfold takeG
  rw [if_pos rfl, headR_line hm hn]
  show takeG [] 1 _ _ = _
  rw [takeG_run c.villages 1 _ (by omega) hv]
  simp [emptyC]
theorem okV {c : Com} (h : c.Ok 4) : (∀ n ∈ c.mountains, In99 n) ∧ c.mountains ≠ [] ∧ ∀ v ∈ c.villages, VlOk v := by
  have hl : ∀ v ∈ c.villages, v.likes.length = c.mountains.length := fun v hv => by
    have h7 := (h.vil v hv).2.2.2.2.length_eq
    have h8 : (iota c.mountains.length).length = c.mountains.length := (by simp [iota])
    omega
  have h1 := h.n1
  have h2 := h.n2
  refine ⟨fun n hn => by have := h.bears n hn; exact ⟨this.1, by omega⟩, fun e => by rw [e] at h1; simp at h1, fun v hv => ?_⟩
  obtain ⟨a1, a2, a3, a4, a5⟩ := h.vil v hv
  refine ⟨⟨by omega, by omega⟩, ⟨by omega, by omega⟩, fun n hn => ?_, fun e => ?_⟩
  · have := a5.mem_iff.1 hn
    obtain ⟨k, hk, rfl⟩ : ∃ k : Nat, k < c.mountains.length ∧ n = (k : Int) := by
      simp only [iota, List.mem_map, List.mem_range] at this
      obtain ⟨k, hk, e⟩ := this
      exact ⟨k, hk, e.symm⟩
    exact ⟨by omega, by omega⟩
  · have := hl v hv
    rw [e] at this
    simp at this
    omega
theorem cmT_len {c : Com} (h : c.Ok 4) : (cmT numD c).length ≤ 400 := by
  obtain ⟨hm, _, hv⟩ := okV h
  have hl : ∀ v ∈ c.villages, v.likes.length ≤ 4 := fun v hv => by
    have h7 := (h.vil v hv).2.2.2.2.length_eq
    have h8 : (iota c.mountains.length).length = c.mountains.length := (by simp [iota])
    have := h.n2
    omega
  have ls : ∀ l : List Int, (∀ n ∈ l, In99 n) → l.length ≤ 4 → (lsT numD l).length ≤ 13 := fun l hl h4 => by
    have := flat_le 3 (fun n => [32] ++ numD n) l fun n hn => by have := numD_len (hl n hn); simp; omega
    unfold lsT
    simp only [List.length_append, List.length_singleton]
    omega
  have hvl : c.villages.length ≤ 4 := by rw [h.vl]; exact h.n2
  have h1 := ls c.mountains hm h.n2
  have h2 := flat_le 60 (vlT numD) c.villages fun v hvm => by
    obtain ⟨a, b, d, _⟩ := hv v hvm
    have := ls v.likes d (hl v hvm)
    have := numD_len a
    have := numD_len b
    unfold vlT
    simp only [List.length_append, List.length_cons, List.length_nil]
    omega
  unfold cmT
  simp only [List.length_append, List.length_cons, List.length_nil]
  omega
theorem read_written {c : Com} (h : c.Ok 4) : readR (cmT numD c) = (c, 0, 0) := by
  obtain ⟨h1, h2, h3⟩ := okV h
  unfold readR
  rw [if_neg (by have := cmT_len h; omega), takeR_cmT h1 h2 h3]
  show (if checkE c = 0 then (c, (0 : Int), (0 : Int)) else _) = _
  rw [if_pos ((checkE_zero c).2 h)]
theorem written_read {t : List UInt8} {c : Com} {n : Int} (h : readR t = (c, n, 0)) : checkE c = 0 ∧ t = cmT numD c := by
  unfold readR at h
  split at h
  · simp at h
  · cases ht : takeR (cutL 10 t) with
    | error k => rw [ht] at h; simp at h
    | ok c' =>
      rw [ht] at h
      by_cases hc : checkE c' = 0
      · have h : (if checkE c' = 0 then (c', (0 : Int), (0 : Int)) else (emptyC, 0, checkE c')) = (c, n, 0) := h
        rw [if_pos hc] at h
        injection h with h1 _
        subst h1
        exact ⟨hc, takeR_ok ht⟩
      · have h : (if checkE c' = 0 then (c', (0 : Int), (0 : Int)) else (emptyC, 0, checkE c')) = (c, n, 0) := h
        rw [if_neg hc] at h
        injection h with _ h2
        injection h2 with _ h3
        exact absurd h3 hc

end Go.Proofs.YtmlikgjfpmjdcaaGreatDoor
