/- The numbers of words by a form (edge.numbers); conditions: the library's variables hold what they are laid with. -/
import Derived.Test.YtbpfhoihfoojfaaGreatDoorTx1
namespace Go.Proofs.YtbpfhoihfoojfaaGreatDoor
open Go.RowKit

theorem str_toList (l : List UInt8) : (str l).toList = l := ByteArray.toList_mk l
theorem formL_len {sg : Bool} : ∀ {ns ws : List (List UInt8)} {l : List Int}, formL sg ns ws = some l → ws.length = ns.length
  | [], [], _, _ => rfl
  | [], _ :: _, _, h => by unfold formL at h; cases h
  | _ :: _, [], _, h => by unfold formL at h; cases h
  | n :: ns, w :: ws, l, h => by
    unfold formL at h
    split at h
    · cases hs : sgnL (sg && ns.isEmpty) w with
      | none => rw [hs] at h; cases h
      | some a =>
        rw [hs] at h
        cases hf : formL sg ns ws with
        | none => rw [hf] at h; cases h
        | some l' => rw [List.length_cons, List.length_cons, formL_len hf]
    · split at h
      · rw [List.length_cons, List.length_cons, formL_len h]
      · cases h
theorem formL_ne {sg : Bool} {ns ws : List (List UInt8)} (h : ws.length ≠ ns.length) : formL sg ns ws = none := by
  cases hf : formL sg ns ws with
  | none => rfl
  | some l => exact absurd (formL_len hf) h
/-- The number of a word, and its sign. -/
def cndN (sg : Bool) (k n : Nat) (wd : List UInt8) : Bool := decide (wd.head? = some 45) && (sg && (decide (k + 1 = n) && decide (wd.tail ≠ [48])))
theorem sgnL_split (sg : Bool) (k n : Nat) (ns : List (List UInt8)) (wd : List UInt8) (h : ns.isEmpty = decide (k + 1 = n)) :
    sgnL (sg && ns.isEmpty) wd = (numL (if cndN sg k n wd then wd.tail else wd)).map fun m => (if cndN sg k n wd then -1 else 1) * m := by
  have e : cndN sg k n wd = true ↔ (sg && ns.isEmpty) = true ∧ wd.head? = some 45 ∧ wd.tail ≠ [48] := by
    rw [h]
    simp only [cndN, Bool.and_eq_true, decide_eq_true_eq]
    constructor
    · rintro ⟨a, b, c, d⟩; exact ⟨⟨b, c⟩, a, d⟩
    · rintro ⟨⟨b, c⟩, a, d⟩; exact ⟨a, b, c, d⟩
  unfold sgnL
  by_cases hc : cndN sg k n wd = true
  · rw [if_pos (e.1 hc)]
    simp only [hc, if_true]
    congr 1
    funext m
    omega
  · rw [if_neg fun x => hc (e.2 x)]
    simp only [hc, if_false, Int.one_mul, Option.map_id', Bool.false_eq_true]
theorem form_at {sg : Bool} {names ws : List (List UInt8)} {k : Nat} (h1 : k < names.length) (h2 : k < ws.length) :
    formL sg (names.drop k) (ws.drop k) = if names[k] = [] then ((sgnL (sg && (names.drop (k + 1)).isEmpty) ws[k]).bind fun a => (formL sg (names.drop (k + 1)) (ws.drop (k + 1))).map (a :: ·)) else if ws[k] = names[k] then formL sg (names.drop (k + 1)) (ws.drop (k + 1)) else none := by
  rw [List.drop_eq_getElem_cons h1, List.drop_eq_getElem_cons h2]
  conv => lhs; unfold formL
  split
  · cases sgnL (sg && (names.drop (k + 1)).isEmpty) ws[k] <;> rfl
  · rfl
theorem drop_empty (names : List (List UInt8)) (k : Nat) (h : k < names.length) : (names.drop (k + 1)).isEmpty = decide (k + 1 = names.length) := by
  by_cases hk : k + 1 = names.length
  · rw [decide_eq_true hk, hk, List.drop_length]; rfl
  · rw [decide_eq_false hk]
    cases hd : names.drop (k + 1) with
    | nil => have := congrArg List.length hd; rw [List.length_drop] at this; simp at this; omega
    | cons a r => rfl
/-- What numbers hands back. -/
def NmPost (sg : Bool) (names ws : List (List UInt8)) (w : World) (e : Ending) (w' : World) : Prop :=
  ∃ v, e = .returned (.tuple #[v, .bool (formL sg names ws).isSome]) ∧ Ints (fun q => w.heap.size ≤ q) w' v ((formL sg names ws).getD []) ∧ Below w.heap.size w w'
theorem ints_nil (A : Nat → Prop) (w : World) : Ints A w (.slice none 0 0) [] := ⟨none, 0, rfl, Nat.le_refl _, ⟨by unfold maxLen; omega, fun _ => rfl⟩, .inl rfl⟩
theorem nm_none {sg : Bool} {names ws : List (List UInt8)} {w w' : World} (h : formL sg names ws = none) (hB : Below w.heap.size w w') : NmPost sg names ws w (.returned (.tuple #[.slice none 0 0, .bool false])) w' := by
  unfold NmPost
  rw [h]
  exact ⟨_, rfl, ints_nil _ _, hB⟩

attribute [local go_sem] str_toList
set_option maxRecDepth 100000 in
set_option maxHeartbeats 4000000 in
theorem numbers_c (sg : Bool) (F : List UInt8) (names ws : List (List UInt8)) (hF : cutL 124 F = names) (hFl : F.length ≤ 1000) (hnl : names.length ≤ 1000) (b off cap : Nat) (w : World) (hG : GV w) (hS : SW b off ws w) (hwl : ∀ s ∈ ws, s.length ≤ 100000) (_hwm : ws.length ≤ 100000) :
    Calls Tryz.prog 61 #[.slice (some ⟨b, off, none⟩) ws.length cap, .string (str F), .bool sg] w (NmPost sg names ws w) := by
  have hne : names ≠ [] := by rw [← hF]; exact cutL_ne _ _
  have hn0 : 0 < names.length := List.length_pos_iff.2 hne
  have hsp := split_c 124 F w hG (by omega)
  rw [hF] at hsp
  have HSP := Lib.hid hsp
  clear hsp hF hne
  go_enter Tryz.func61, Tryz.ntmps61
  go_wp2_with fail
  refine HSP.out.mono ?_
  rintro e w1 ⟨rfl, hN1, hB1⟩
  obtain ⟨b8, hb8⟩ : ∃ q, q = w.heap.size := ⟨_, rfl⟩
  rw [← hb8] at hN1 ⊢
  clear hb8
  have hG1 := hG.call hB1
  have hS1 := hS.call hB1
  by_cases hll : ws.length = names.length
  · have e1 : ((ws.length : Int) != (names.length : Int)) = false := by rw [bne_eq_false_iff_eq, hll]
    have HLL := Lib.hid hll
    have hle1 : ws.length ≤ names.length := Nat.le_of_eq hll
    have hle2 : names.length ≤ ws.length := Nat.le_of_eq hll.symm
    clear hll
    go_wp2_with fail
    go_loopw [9, 27] (fun vo vi wr => ∃ (k : Nat) (l : List Int), k ≤ names.length ∧ vi = .int .i64 k ∧ l.length ≤ k ∧ Hid (formL sg names ws = (formL sg (names.drop k) (ws.drop k)).map (l ++ ·)) ∧ Own w1.heap.size wr 3 1 vo l.length (I64 l) ∧ Below w1.heap.size w1 wr) (fun _ vi _ => names.length - (intOf vi).toNat)
    case atStart => exact ⟨0, [], Nat.zero_le _, rfl, Nat.le_refl _, Lib.hid (by simp), Own.nil, Below.refl _ _⟩
    case round =>
      obtain ⟨k, l, hk, rfl, hlk, HI, hO, hB⟩ := hrel
      obtain ⟨av, cv, rfl⟩ := own_slice hO
      have hNr := hN1.call hB
      have hSr := hS1.call hB
      have hGr := hG1.call hB
      have hzr := hB.size
      by_cases hlt : k < names.length
      · have hltw : k < ws.length := by omega
        have d0 := hNr.2 k hlt
        have d1 := hSr.2 k hltw
        have hfa := form_at (sg := sg) hlt hltw
        have hde := drop_empty names k hlt
        have hwk := hwl _ (List.getElem_mem hltw)
        obtain ⟨nm, hnm⟩ : ∃ x, x = names[k] := ⟨_, rfl⟩
        obtain ⟨wd, hwd⟩ : ∃ x, x = ws[k] := ⟨_, rfl⟩
        rw [← hnm, ← hwd] at hfa
        rw [← hnm, Nat.zero_add] at d0
        rw [← hwd] at d1 hwk
        have HFA := Lib.hid hfa
        have HDE := Lib.hid hde
        clear hfa hde hnm hwd
        by_cases hnm : nm = []
        · subst hnm
          have hb0 : (([] : List UInt8) != []) = false := rfl
          have HF2 := HFA.out
          rw [if_pos rfl, sgnL_split sg k names.length _ wd HDE.out] at HF2
          have HFB := Lib.hid HF2
          clear HF2 HFA
          obtain ⟨cn, hcn⟩ : ∃ x, x = cndN sg k names.length wd := ⟨_, rfl⟩
          have HCN := Lib.hid hcn
          clear hcn
          obtain ⟨ct, hct⟩ : ∃ x, x = cutS wd := ⟨_, rfl⟩
          have hcc := cut_c wd wr
          obtain ⟨c45, hc45⟩ : ∃ x, x = decide (wd.head? = some 45) := ⟨_, rfl⟩
          rw [← hct, ← hc45] at hcc
          have HC45 := Lib.hid hc45
          clear hc45
          have HCC := Lib.hid hcc
          have HCT := Lib.hid hct
          clear hcc hct
          go_upto_region 13 with (go_at_call 89; refine HCC.out.mono ?_; rintro e w' ⟨rfl, rfl⟩)
          rename World => wr
          go_cut [63] from 49 to 64 (fun s63 wx => s63 = .bool cn ∧ wx = wr)
          case first =>
            cases c45 with
            | true =>
              have H45 := Lib.hid (show wd.head? = some 45 from of_decide_eq_true HC45.out.symm)
              cases sg with
              | false =>
                go_wp2_with fail
                go_meet
                case rel => exact ⟨by rw [HCN.out]; simp [cndN], rfl⟩
              | true =>
                have bn : IntKind.i64.wrap ((names.length : Int) - 1) = (names.length : Int) - 1 := IntWalk.i64_in _ (by omega)
                by_cases hl : k + 1 = names.length
                · have bl : ((k : Int) == (names.length : Int) - 1) = true := by rw [beq_iff_eq]; omega
                  have HL := Lib.hid hl
                  clear hl
                  by_cases h48 : ct = [48]
                  · have b48 : (ct != [48]) = false := by rw [h48]; rfl
                    have H48 := Lib.hid h48
                    clear h48
                    go_wp2_with fail
                    go_meet
                    case rel =>
                      refine ⟨?_, rfl⟩
                      have : wd.tail = [48] := by have h := HCT.out; unfold cutS at h; rw [if_pos H45.out] at h; exact h.symm.trans H48.out
                      rw [HCN.out]; simp [cndN, this, H48.out]
                  · have b48 : (ct != [48]) = true := by rw [bne_iff_ne]; exact h48
                    have H48 := Lib.hid h48
                    clear h48
                    go_wp2_with fail
                    go_meet
                    case rel =>
                      refine ⟨?_, rfl⟩
                      have : wd.tail ≠ [48] := fun e => H48.out (by have h := HCT.out; unfold cutS at h; rw [if_pos H45.out] at h; rw [h, e])
                      rw [HCN.out]; simp [cndN, this, H45.out, HL.out, H48.out]
                · have bl : ((k : Int) == (names.length : Int) - 1) = false := by rw [beq_eq_false_iff_ne]; omega
                  have HL := Lib.hid hl
                  clear hl
                  go_wp2_with fail
                  go_meet
                  case rel => exact ⟨by rw [HCN.out]; simp [cndN, HL.out], rfl⟩
            | false =>
              have H45 := Lib.hid (show ¬ wd.head? = some 45 from of_decide_eq_false HC45.out.symm)
              go_wp2_with fail
              go_meet
              case rel => exact ⟨by rw [HCN.out]; simp [cndN, H45.out], rfl⟩
          case rest =>
          obtain ⟨rfl, rfl⟩ := hcut
          rename World => wr
          obtain ⟨t, ht⟩ : ∃ t, t = (if cn then ct else wd) := ⟨_, rfl⟩
          obtain ⟨sn, hsn⟩ : ∃ t : Int, t = (if cn then -1 else 1) := ⟨_, rfl⟩
          have htl : t.length ≤ 100000 := by
            rw [ht]
            split
            · have := HCT.out; unfold cutS at this; rw [this]; split
              · rw [List.length_tail]; omega
              · exact hwk
            · exact hwk
          have hHF := HFB.out
          have htt : (if cndN sg k names.length wd then wd.tail else wd) = t := by
            rw [ht, ← HCN.out, HCT.out]
            unfold cutS
            cases hcv : cn with
            | false => rfl
            | true =>
              have : wd.head? = some 45 := by have := HCN.out; rw [hcv] at this; simp only [cndN, Bool.and_eq_true, decide_eq_true_eq, eq_comm (a := true)] at this; exact this.1
              simp [this]
          rw [htt, ← HCN.out, ← hsn] at hHF
          have HF3 := Lib.hid hHF
          have HT := Lib.hid ht
          have HSN := Lib.hid hsn
          clear ht hsn hHF htt HFB HCT HCN HCC
          go_upto_if 63 with fail
          go_cut [12, 13] from 64 to 65 (fun s12 s13 wx => s12 = .string (str t) ∧ s13 = .int .i64 sn ∧ wx = wr)
          case first =>
            cases cn with
            | true =>
              go_wp2_with fail
              go_meet
              case rel => exact ⟨by rw [HT.out]; rfl, by rw [HSN.out]; rfl, rfl⟩
            | false =>
              go_wp2_with fail
              go_meet
              case rel => exact ⟨by rw [HT.out]; rfl, by rw [HSN.out]; rfl, rfl⟩
          case rest =>
          obtain ⟨rfl, rfl, rfl⟩ := hcut
          rename World => wr
          obtain ⟨qn, hqn⟩ : ∃ x, x = (numL t).isNone := ⟨_, rfl⟩
          have HQ := Lib.hid hqn
          clear hqn
          have hz := str_size t
          go_upto_region 15 with fail
          go_cut [87] from 65 to 88 (fun s87 wx => s87 = .bool qn ∧ Below wr.heap.size wr wx)
          case first =>
            by_cases h0 : t = []
            · have e0 : ((t.length : Int) == 0) = true := by rw [h0]; rfl
              have H0 := Lib.hid h0
              clear h0
              go_wp2_with fail
              go_meet
              case rel => exact ⟨by rw [HQ.out, H0.out]; rfl, Below.refl _ _⟩
            · have hp : 0 < t.length := List.length_pos_iff.2 h0
              have e0 : ((t.length : Int) == 0) = false := by rw [beq_eq_false_iff_ne]; omega
              have HTE0 := Lib.hid h0
              clear h0
              by_cases h2 : 2 < t.length
              · have d2 : decide ((2 : Int) < (t.length : Int)) = true := decide_eq_true (by omega)
                go_wp2_with fail
                go_meet
                case rel => exact ⟨by rw [HQ.out, (num_test t).1 (.inr (.inl h2))]; rfl, Below.refl _ _⟩
              · have d2 : decide ((2 : Int) < (t.length : Int)) = false := decide_eq_false (by omega)
                by_cases h1 : 1 < t.length
                · have d3 : decide ((1 : Int) < (t.length : Int)) = true := decide_eq_true (by omega)
                  obtain ⟨x0, hx0⟩ : ∃ x, x = t[0] := ⟨_, rfl⟩
                  have hix : (str t)[0]'(by rw [str_size]; omega) = x0 := by rw [hx0]; rfl
                  have HX := Lib.hid hx0
                  clear hx0
                  by_cases h48 : x0 = 48
                  · have b48 : ((x0.toNat : Int) == 48) = true := by rw [h48]; rfl
                    have H48 := Lib.hid h48
                    clear h48
                    go_wp2_with fail
                    go_meet
                    case rel =>
                      refine ⟨?_, Below.refl _ _⟩
                      rw [HQ.out, (num_test t).1 (.inr (.inr (.inl ⟨h1, ?_⟩)))]
                      · rfl
                      · rw [List.head?_eq_getElem?, List.getElem?_eq_getElem hp, ← HX.out, H48.out]
                  · have b48 : ((x0.toNat : Int) == 48) = false := by
                      rw [beq_eq_false_iff_ne]
                      intro e
                      exact h48 (by rw [← UInt8.toNat_inj]; have : x0.toNat = 48 := by omega
                                    rw [this]; rfl)
                    have HA0 := Lib.hid (show ¬ (1 < t.length ∧ t.head? = some 48) from fun h => h48 (by
                      have h' := h.2
                      rw [List.head?_eq_getElem?, List.getElem?_eq_getElem hp, ← HX.out] at h'
                      injection h'))
                    clear h48
                    obtain ⟨tr, htr⟩ : ∃ x, x = Lib.trimS t digs := ⟨_, rfl⟩
                    have hTR := trim_c t htl wr
                    rw [← htr] at hTR
                    have HTR := Lib.hid hTR
                    have HTE := Lib.hid htr
                    clear hTR htr
                    by_cases htr0 : tr = []
                    · have bt : tr.isEmpty = true := by rw [htr0]; rfl
                      have HT0 := Lib.hid htr0
                      clear htr0
                      go_wp2_with fail
                      refine HTR.out.mono ?_
                      rintro e w2 ⟨rfl, hB2⟩
                      go_wp2_with fail
                      go_meet
                      case rel =>
                        refine ⟨?_, hB2⟩
                        have hx : ¬ numL t = none := fun h => by
                          rcases (num_test t).2 h with h | h | h | h
                          · exact HTE0.out h
                          · omega
                          · exact HA0.out h
                          · exact h (HTE.out.symm.trans HT0.out)
                        rw [HQ.out]
                        cases hn : numL t with
                        | none => exact absurd hn hx
                        | some m => rfl
                    · have bt : tr.isEmpty = false := by rw [Bool.eq_false_iff]; exact fun h => htr0 (List.isEmpty_iff.1 h)
                      have HT0 := Lib.hid htr0
                      clear htr0
                      go_wp2_with fail
                      refine HTR.out.mono ?_
                      rintro e w2 ⟨rfl, hB2⟩
                      go_wp2_with fail
                      go_meet
                      case rel =>
                        refine ⟨?_, hB2⟩
                        rw [HQ.out, (num_test t).1 (.inr (.inr (.inr fun h => HT0.out (HTE.out.trans h))))]
                        rfl
                · have d3 : decide ((1 : Int) < (t.length : Int)) = false := decide_eq_false (by omega)
                  have HA0 := Lib.hid (show ¬ (1 < t.length ∧ t.head? = some 48) from fun h => h1 h.1)
                  obtain ⟨tr, htr⟩ : ∃ x, x = Lib.trimS t digs := ⟨_, rfl⟩
                  have hTR := trim_c t htl wr
                  rw [← htr] at hTR
                  have HTR := Lib.hid hTR
                  have HTE := Lib.hid htr
                  clear hTR htr
                  by_cases htr0 : tr = []
                  · have bt : tr.isEmpty = true := by rw [htr0]; rfl
                    have HT0 := Lib.hid htr0
                    clear htr0
                    go_wp2_with fail
                    refine HTR.out.mono ?_
                    rintro e w2 ⟨rfl, hB2⟩
                    go_wp2_with fail
                    go_meet
                    case rel =>
                      refine ⟨?_, hB2⟩
                      have hx : ¬ numL t = none := fun h => by
                        rcases (num_test t).2 h with h | h | h | h
                        · exact HTE0.out h
                        · omega
                        · exact HA0.out h
                        · exact h (HTE.out.symm.trans HT0.out)
                      rw [HQ.out]
                      cases hn : numL t with
                      | none => exact absurd hn hx
                      | some m => rfl
                  · have bt : tr.isEmpty = false := by rw [Bool.eq_false_iff]; exact fun h => htr0 (List.isEmpty_iff.1 h)
                    have HT0 := Lib.hid htr0
                    clear htr0
                    go_wp2_with fail
                    refine HTR.out.mono ?_
                    rintro e w2 ⟨rfl, hB2⟩
                    go_wp2_with fail
                    go_meet
                    case rel =>
                      refine ⟨?_, hB2⟩
                      rw [HQ.out, (num_test t).1 (.inr (.inr (.inr fun h => HT0.out (HTE.out.trans h))))]
                      rfl
          case rest =>
          obtain ⟨rfl, hBx⟩ := hcut
          rename World => wx
          have hOx := hO.call hBx
          have hBxx := bnw hB hBx
          have hzx := hBx.size
          cases hm : numL t with
          | none =>
            obtain rfl : qn = true := by rw [HQ.out, hm]; rfl
            have HN := Lib.hid (show formL sg names ws = none by rw [HI.out, HF3.out, hm]; rfl)
            clear hm
            go_wp2_with fail
            go_ret2
            exact nm_none HN.out (bnw hB1 hBxx)
          | some m =>
            obtain rfl : qn = false := by rw [HQ.out, hm]; rfl
            have hat := atoi_c t m hm wx
            have HAT := Lib.hid hat
            have hmb := numL_some hm
            have hv : -100 < sn * m ∧ sn * m < 100 := by
              rw [HSN.out]
              cases cn
              · simp; omega
              · simp; omega
            obtain ⟨v, hv'⟩ : ∃ v, v = sn * m := ⟨_, rfl⟩
            have bw : IntKind.i64.wrap (sn * m) = v := by rw [hv']; exact IntWalk.i64_in _ (by omega)
            rw [← hv'] at hv
            have HFI := Lib.hid (show formL sg names ws = (formL sg (names.drop (k + 1)) (ws.drop (k + 1))).map (fun r => (l ++ [v]) ++ r) by
              rw [HI.out, HF3.out, hm]
              show Option.map _ (Option.map _ (formL sg (names.drop (k + 1)) (ws.drop (k + 1)))) = _
              rw [Option.map_map]
              congr 1
              funext r
              simp [hv'])
            clear hm hat hv' hmb
            go_wp2_with fail
            refine HAT.out.mono ?_
            rintro e w2 ⟨rfl, hB2⟩
            have hO2 := (hOx.call hB2).alloc (.cells #[.int .i64 v] 3)
            have hz2 := hB2.size
            have hB2x := bnw hBxx hB2
            go_wp2_with (at_builtin; go_loud (refine wpList_append_arr rfl _ _ 26 rfl 3 (.int .i64 0) 1 8 Tryz.underlying26 Tryz.info3 rfl (by decide) (by decide) (by simp; omega) hO2 rfl (arr_one w2 3 (.int .i64 v)) rfl rfl (one_int _) (by omega) ?_); intro v9 w9 hown hT9)
            have hB9 := hT9.below2 (B' := w1.heap.size) hO2 (hB2x.alloc (by omega) _) (by simp; omega) (Nat.le_refl _)
            go_roundw
            case rel =>
              refine ⟨k + 1, l ++ [v], by omega, by go_num, by simp; omega, HFI, ?_, hB9⟩
              rw [I64_append, List.length_append]
              exact hown
            case measure => simp [intOf]; omega
        · have hb0 : nm.isEmpty = false := by rw [Bool.eq_false_iff]; exact fun h => hnm (List.isEmpty_iff.1 h)
          have hHF := HFA.out
          rw [if_neg hnm] at hHF
          clear HFA
          by_cases hw : wd = nm
          · have hb1 : (wd == nm) = true := by rw [beq_iff_eq]; exact hw
            have hb2 : (wd != nm) = false := by rw [bne_eq_false_iff_eq]; exact hw
            rw [if_pos hw] at hHF
            have HF := Lib.hid hHF
            clear hHF hw hnm
            go_wp2_with fail
            go_roundw
            case rel => exact ⟨k + 1, l, by omega, by go_num, by omega, Lib.hid (HI.out.trans (by rw [HF.out])), hO, hB⟩
            case measure => simp [intOf]; omega
          · have hb1 : (wd == nm) = false := by rw [beq_eq_false_iff_ne]; exact hw
            have hb2 : (wd != nm) = true := by rw [bne_iff_ne]; exact hw
            rw [if_neg hw] at hHF
            have HN := Lib.hid (show formL sg names ws = none by rw [HI.out, hHF]; rfl)
            clear hHF hw hnm
            go_wp2_with fail
            go_ret2
            exact nm_none HN.out (bnw hB1 hB)
      · obtain rfl : k = names.length := by omega
        have HR := Lib.hid (show formL sg names ws = some l by
          rw [HI.out, List.drop_length, List.drop_of_length_le (by omega)]
          simp [formL])
        go_wp2_with fail
        go_ret2
        refine ⟨_, by rw [HR.out]; rfl, ?_, bnw hB1 hB⟩
        rw [HR.out]
        exact (Own.ints hO).wide fun q hq _ => by have := hB1.size; omega
  · have e1 : ((ws.length : Int) != (names.length : Int)) = true := by rw [bne_iff_ne]; omega
    have hn := formL_ne (sg := sg) hll
    have HN := Lib.hid hn
    clear hll hn
    go_wp2_with fail
    go_ret2
    exact nm_none HN.out hB1

end Go.Proofs.YtbpfhoihfoojfaaGreatDoor
