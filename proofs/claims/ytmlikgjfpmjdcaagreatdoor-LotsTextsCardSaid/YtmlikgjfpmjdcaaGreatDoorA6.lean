/- The contract of Draw, the trade in plain words; conditions: as said at each. -/
import Derived.Test.YtmlikgjfpmjdcaaGreatDoorA5

/- The contracts of begin, draw, Draw (lots); conditions: as said. -/
namespace Go.Proofs.YtmlikgjfpmjdcaaGreatDoor
open Go.RowKit

/-- The error of commons and of a list of all. -/
def divE (c : Com) (l : List Int) : Int := if checkE c = 0 then placesE l c.mountains.length else checkE c
theorem divE_ok {c : Com} {l : List Int} (h : divE c l = 0) : c.Ok 4 ∧ PermOf c.mountains.length l := by
  rw [divE] at h
  by_cases he : checkE c = 0
  · rw [if_pos he] at h
    exact ⟨(checkE_zero c).1 he, (placesE_zero l _).1 h⟩
  · rw [if_neg he] at h; exact absurd h he

set_option maxRecDepth 100000 in
theorem begin_ok {A A' : Nat → Prop} {w : World} {vm vv vd : Value} {c : Com} {l : List Int} (h : Cm A w vm vv c) (hd : Ints A' w vd l) (he : divE c l = 0) :
    Calls Tryz.prog 42 #[.agg #[vm, vv], vd] w fun e w' => ∃ g, e = .returned (.tuple #[.pointer (some ⟨g, 0, none⟩), .int .i64 0]) ∧ Blk g #[vm, vv] 93 w' ∧ w.heap.size ≤ g ∧ Below w.heap.size w w' := by
  obtain ⟨am, cpm, rfl, _, _⟩ := h.1.shape
  obtain ⟨av, cpv, rfl, _, _⟩ := h.2.shape
  have n1 := h.1.len
  have hB0 : Below w.heap.size w (w.alloc (.cells #[.slice am c.mountains.length cpm, .slice av c.villages.length cpv] 25)) := (Below.refl _ w).alloc (Nat.le_refl _) _
  have hx : Box2 w.heap.size (.slice am c.mountains.length cpm) (.slice av c.villages.length cpv) 25 (w.alloc (.cells #[.slice am c.mountains.length cpm, .slice av c.villages.length cpv] 25)) := Blk.new w _ _
  have hszl : w.heap.size < (w.alloc (.cells #[.slice am c.mountains.length cpm, .slice av c.villages.length cpv] 25)).heap.size := by simp
  have h0 := h.call hB0
  have hd0 := hd.call hB0
  have hok := divE_ok he
  have hc0 : checkE c = 0 := (checkE_zero c).2 hok.1
  have hp0 : placesE l c.mountains.length = 0 := (placesE_zero l _).2 hok.2
  have b1 : (checkE c != 0) = false := by simpa using hc0
  have b2 : (placesE l c.mountains.length != 0) = false := by simpa using hp0
  have hn2 := hok.1.n2
  clear he hc0 hp0
  go_enter Tryz.func42, Tryz.ntmps42
  go_wp2_with fail
  refine (check_c h0).mono ?_
  rintro e w1 ⟨rfl, hB1⟩
  have hx1 : Box2 w.heap.size (.slice am c.mountains.length cpm) (.slice av c.villages.length cpv) 25 w1 := hx.below hB1 hszl
  have hB2 := hB0.trans (hB1.mono hB0.size)
  have y0 := hx1.c0
  have y1 := hx1.c1
  go_wp2_with fail
  refine (places_c _ (by omega) (by omega) (hd0.call hB1)).mono ?_
  rintro e w2 ⟨rfl, hq2⟩
  have hx2 : Box2 w.heap.size (.slice am c.mountains.length cpm) (.slice av c.villages.length cpv) 25 w2 := hx1.below (hq2.below w1.heap.size) (by have := hB1.size; omega)
  have hB3 := hB2.trans (hq2.below _)
  have z0 := hx2.c0
  have z1 := hx2.c1
  go_wp2
  go_ret2
  exact ⟨_, rfl, Blk.new w2 _ _, hB3.size, hB3.alloc hB3.size _⟩

set_option maxRecDepth 100000 in
theorem begin_bad {A A' : Nat → Prop} {w : World} {vm vv vd : Value} {c : Com} {l : List Int} (h : Cm A w vm vv c) (hd : Ints A' w vd l) (he : divE c l ≠ 0) :
    Calls Tryz.prog 42 #[.agg #[vm, vv], vd] w fun e w' => e = .returned (.tuple #[.pointer none, .int .i64 (divE c l)]) ∧ Below w.heap.size w w' := by
  obtain ⟨am, cpm, rfl, _, _⟩ := h.1.shape
  obtain ⟨av, cpv, rfl, _, _⟩ := h.2.shape
  have n1 := h.1.len
  have hB0 : Below w.heap.size w (w.alloc (.cells #[.slice am c.mountains.length cpm, .slice av c.villages.length cpv] 25)) := (Below.refl _ w).alloc (Nat.le_refl _) _
  have hx : Box2 w.heap.size (.slice am c.mountains.length cpm) (.slice av c.villages.length cpv) 25 (w.alloc (.cells #[.slice am c.mountains.length cpm, .slice av c.villages.length cpv] 25)) := Blk.new w _ _
  have hszl : w.heap.size < (w.alloc (.cells #[.slice am c.mountains.length cpm, .slice av c.villages.length cpv] 25)).heap.size := by simp
  have h0 := h.call hB0
  have hd0 := hd.call hB0
  by_cases hc0 : checkE c = 0
  · have b1 : (checkE c != 0) = false := by simpa using hc0
    have hdv : divE c l = placesE l c.mountains.length := by rw [divE, if_pos hc0]
    have b2 : (placesE l c.mountains.length != 0) = true := by rw [← hdv]; simpa using he
    have hn2 := ((checkE_zero c).1 hc0).n2
    have HD := Lib.hid hdv
    clear he hc0 hdv
    go_enter Tryz.func42, Tryz.ntmps42
    go_wp2_with fail
    refine (check_c h0).mono ?_
    rintro e w1 ⟨rfl, hB1⟩
    have hx1 : Box2 w.heap.size (.slice am c.mountains.length cpm) (.slice av c.villages.length cpv) 25 w1 := hx.below hB1 hszl
    have hB2 := hB0.trans (hB1.mono hB0.size)
    have y0 := hx1.c0
    have y1 := hx1.c1
    go_wp2_with fail
    refine (places_c _ (by omega) (by omega) (hd0.call hB1)).mono ?_
    rintro e w2 ⟨rfl, hq2⟩
    go_wp2
    go_ret2
    exact ⟨by rw [HD.out]; rfl, hB2.trans (hq2.below _)⟩
  · have b1 : (checkE c != 0) = true := by simpa using hc0
    have hdv : divE c l = checkE c := by rw [divE, if_neg hc0]
    have HD := Lib.hid hdv
    clear he hc0 hdv
    go_enter Tryz.func42, Tryz.ntmps42
    go_wp2_with fail
    refine (check_c h0).mono ?_
    rintro e w1 ⟨rfl, hB1⟩
    have hB2 := hB0.trans (hB1.mono hB0.size)
    go_wp2
    go_ret2
    exact ⟨by rw [HD.out]; rfl, hB2⟩

/-- A village draws: the first mountain of its list that is not taken. -/
def drawStep (vs : List Vil) (s : List Int × List Int) (v : Int) : List Int × List Int :=
  match (vs.getD v.toNat ⟨0, 0, []⟩).likes.find? (fun m => decide (m ∉ s.2)) with
  | some m => (s.1.set v.toNat m, m :: s.2)
  | none => s
def drawSt (vs : List Vil) (n : Nat) (order : List Int) : List Int × List Int := order.foldl (drawStep vs) (List.replicate n 0, [])
def drawF (vs : List Vil) (n : Nat) (order : List Int) : List Int := (drawSt vs n order).1

theorem drawSt_snoc (vs : List Vil) (n : Nat) (l : List Int) (v : Int) : drawSt vs n (l ++ [v]) = drawStep vs (drawSt vs n l) v := by
  simp [drawSt, List.foldl_append]
theorem drawStep_len (vs : List Vil) (s : List Int × List Int) (v : Int) : (drawStep vs s v).1.length = s.1.length := by
  unfold drawStep; split <;> simp
theorem drawSt_len (vs : List Vil) (n : Nat) : ∀ (order : List Int) (s : List Int × List Int), (order.foldl (drawStep vs) s).1.length = s.1.length
  | [], s => rfl
  | v :: rest, s => by rw [List.foldl_cons, drawSt_len vs n rest, drawStep_len]

/-- The mask says what is not taken. -/
def MaskOf (n : Nat) (m : Nat) (taken : List Int) : Prop := m < 16 ∧ ∀ j : Nat, j < 4 → hasB m j = decide (j < n ∧ (j : Int) ∉ taken)

theorem mask_all {n : Nat} (hn : n ≤ 4) : MaskOf n (allB n) [] := ⟨allB_lt hn, fun j hj => by rw [allB_has n hn j hj]; simp⟩
theorem mask_wo {n m : Nat} {taken : List Int} (h : MaskOf n m taken) (i : Nat) (hi : i < 4) : MaskOf n (woB m i) ((i : Int) :: taken) := by
  refine ⟨woB_lt h.1, fun j hj => ?_⟩
  rw [woB_has m h.1 i hi j hj, h.2 j hj, Bool.eq_iff_iff]
  simp only [Bool.and_eq_true, decide_eq_true_eq, List.mem_cons, not_or]
  constructor
  · rintro ⟨⟨a, b⟩, c⟩; exact ⟨a, by omega, b⟩
  · rintro ⟨a, b, c⟩; exact ⟨⟨a, c⟩, by omega⟩

end Go.Proofs.YtmlikgjfpmjdcaaGreatDoor

/- The contracts of draw and Draw (lots); conditions: as said. -/
namespace Go.Proofs.YtmlikgjfpmjdcaaGreatDoor
open Go.RowKit

theorem find?_at {l : List Int} {q : Int → Bool} {j : Nat} (hj : j < l.length) (h1 : q l[j] = true) (h2 : ∀ i (a : i < l.length), i < j → q l[i] = false) : l.find? q = some l[j] := by
  rw [List.find?_eq_some_iff_getElem]
  exact ⟨h1, j, hj, rfl, fun i hi => by simpa using h2 i (by omega) hi⟩
theorem find?_no {l : List Int} {q : Int → Bool} (h2 : ∀ i (a : i < l.length), q l[i] = false) : l.find? q = none := by
  rw [List.find?_eq_none]
  intro x hx
  obtain ⟨i, hi, rfl⟩ := List.getElem_of_mem hx
  simpa using h2 i hi

set_option maxRecDepth 100000 in
set_option maxHeartbeats 2000000 in
theorem draw_c {A A' : Nat → Prop} {w : World} {wb : Nat} {vm vv vd : Value} {c : Com} {order : List Int} (hw : Blk wb #[vm, vv] 93 w) (h : Cm A w vm vv c) (hd : Ints A' w vd order) (hok : c.Ok 4) (hp : PermOf c.mountains.length order) :
    Calls Tryz.prog 43 #[.pointer (some ⟨wb, 0, none⟩), vd] w fun e w' => ∃ v', e = .returned v' ∧ Ints (fun b => w.heap.size ≤ b) w' v' (drawF c.villages order.length order) ∧ Below w.heap.size w w' := by
  obtain ⟨am, cpm, rfl, _, _⟩ := h.1.shape
  obtain ⟨av, cpv, rfl, _, _⟩ := h.2.shape
  obtain ⟨ad, cpd, rfl, _, _⟩ := hd.shape
  have hol := hp.len
  have hn4 : order.length ≤ 4 := by have := hok.n2; omega
  have hvl : c.villages.length = order.length := by have := hok.vl; omega
  have hmem := hp.mem
  have hlk : ∀ v ∈ c.villages, PermOf order.length v.likes := fun v hv => by rw [hol]; exact (hok.vil v hv).2.2.2.2
  rw [← hol] at hmem
  have hmk := make_ints_fact order.length (by omega)
  have HOL := Lib.hid hol
  have HVL := Lib.hid hvl
  clear hol hvl
  go_enter Tryz.func43, Tryz.ntmps43
  go_upto_region 1 with fail
  go_cut [5, 6] (fun s5 s6 wx => ∃ g, s5 = .slice (some ⟨g, 0, none⟩) order.length order.length ∧ s6 = .int .u8 (allB order.length) ∧ w.heap.size ≤ g ∧ IntBlk wx g (List.replicate order.length 0) ∧ Below w.heap.size w wx)
  case first =>
    refine wp_region_mix (.one 0 (.one 1 (.one 3 (.one 4 (.two 2 (.act 5 (.act 6 (.act 7 .fin))) 5 (.act 2 (.act 6 (.act 7 .fin)))))))) 99 (fun _ => True) (fun _ => True) (by kernel_rfl) (by kernel_rfl) rfl (by kernel_rfl) trivial (fun w1 hq1 _ => ?_)
    refine mix_pure rfl (fun K hK => ?_)
    go_simp
    refine ⟨_, fun _ _ => rfl, hK _ ?_⟩
    clear hK K
    refine mix_pure rfl (fun K hK => ?_)
    go_simp
    refine ⟨_, fun _ _ => rfl, hK _ ?_⟩
    clear hK K
    refine mix_pure rfl (fun K hK => ?_)
    go_simp
    refine ⟨_, fun _ _ => rfl, hK _ ?_⟩
    clear hK K
    refine mix_pure rfl (fun K hK => ?_)
    go_simp
    refine ⟨_, fun _ _ => rfl, hK _ ?_⟩
    clear hK K
    refine mix_two rfl rfl false false rfl rfl (fun K hK => ?_) (fun K hK => ?_)
    · go_simp
      refine hK _ _ trivial ?_
      clear hK K
      refine mix_eff rfl false rfl (fun K hK => ?_)
      go_simp
      refine (everything_c order.length hn4 _).mono ?_
      rintro e w2 ⟨rfl, rfl⟩
      refine hK _ _ trivial ?_
      clear hK K
      refine mix_eff rfl false rfl (fun K hK => ?_)
      go_simp
      refine hK _ _ trivial ?_
      clear hK K
      refine mix_eff rfl false rfl (fun K hK => ?_)
      go_simp
      refine hK _ _ trivial ?_
      clear hK K
      refine mix_done ?_
      go_wp2_with fail
      go_meet
      exact ⟨w1.heap.size, rfl, rfl, by rw [hq1.size]; exact Nat.le_refl _, intBlk_made w1 _, (hq1.below _).alloc (by rw [hq1.size]; exact Nat.le_refl _) _⟩
    · go_simp
      refine (everything_c order.length hn4 _).mono ?_
      rintro e w2 ⟨rfl, rfl⟩
      refine hK _ _ trivial ?_
      clear hK K
      refine mix_eff rfl false rfl (fun K hK => ?_)
      go_simp
      refine hK _ _ trivial ?_
      clear hK K
      refine mix_eff rfl false rfl (fun K hK => ?_)
      go_simp
      refine hK _ _ trivial ?_
      clear hK K
      refine mix_eff rfl false rfl (fun K hK => ?_)
      go_simp
      refine hK _ _ trivial ?_
      clear hK K
      refine mix_done ?_
      go_wp2_with fail
      go_meet
      exact ⟨w1.heap.size, rfl, rfl, by rw [hq1.size]; exact Nat.le_refl _, intBlk_made w1 _, (hq1.below _).alloc (by rw [hq1.size]; exact Nat.le_refl _) _⟩
  case rest =>
    obtain ⟨g, rfl, rfl, hg, hI0, hB0⟩ := hcut
    clear hmk
    go_wp2
    go_loopw [6, 19] (fun f i wr => ∃ k : Nat, k ≤ order.length ∧ i = .int .i64 k ∧ ∃ m : Nat, f = .int .u8 m ∧ MaskOf order.length m (drawSt c.villages order.length (order.take k)).2 ∧ IntBlk wr g (drawSt c.villages order.length (order.take k)).1 ∧ Below w.heap.size w wr) (fun _ i _ => order.length - (intOf i).toNat)
    case atStart => exact ⟨0, Nat.zero_le _, rfl, _, rfl, mask_all hn4, hI0, hB0⟩
    case round =>
      obtain ⟨k, hk, rfl, m, rfl, hM, hI, hB⟩ := hrel
      by_cases hlt : k < order.length
      · have hwk : Blk wb #[.slice am c.mountains.length cpm, .slice av c.villages.length cpv] 93 wr := hw.call hB
        have hck := h.call hB
        have hdk := hd.call hB
        have hst : drawSt c.villages order.length (order.take (k + 1)) = drawStep c.villages (drawSt c.villages order.length (order.take k)) order[k] := by
          rw [List.take_succ_eq_append_getElem hlt, drawSt_snoc]
        have hlen : (drawSt c.villages order.length (order.take k)).1.length = order.length := by
          rw [drawSt, drawSt_len c.villages order.length]; simp
        obtain ⟨st, hste⟩ : ∃ st, st = drawSt c.villages order.length (order.take k) := ⟨_, rfl⟩
        rw [← hste] at hM hI hst hlen
        clear hste
        have hmk := (hmem order[k]).1 (List.getElem_mem hlt)
        obtain ⟨vi, hvi⟩ : ∃ vi : Nat, order[k] = (vi : Int) := ⟨order[k].toNat, by omega⟩
        rw [hvi] at hst hmk
        obtain ⟨bd, od, rfl, -, -, -⟩ := hdk.addr (by omega)
        have gd := hdk.cell k hlt
        rw [hvi] at gd
        clear hvi
        have hviv : vi < c.villages.length := by have := HVL.out; omega
        obtain ⟨bv, ov, rfl, -, -⟩ := hck.2.addr (by omega)
        obtain ⟨pl, dl, g1, g2, g3, hl⟩ := hck.2.at vi hviv
        have hlp := hlk _ (List.getElem_mem hviv)
        have hll := hlp.len
        have hlm := hlp.mem
        have hget : (c.villages.getD (vi : Int).toNat ⟨0, 0, []⟩).likes = c.villages[vi].likes := by simp [hviv]
        rw [drawStep, hget] at hst
        obtain ⟨lk, hlke⟩ : ∃ lk, lk = c.villages[vi].likes := ⟨_, rfl⟩
        rw [← hlke] at hst hl hll hlm g3
        clear hlke hget hlp
        obtain ⟨bl, ol, rfl, -, -, -⟩ := hl.addr (by omega)
        have c1 := hwk.cell 1
        have hlk4 : lk.length ≤ 4 := by omega
        have HLL := Lib.hid hll
        have HST := Lib.hid hst
        have HLEN := Lib.hid hlen
        clear hll hst hlen
        go_wp2
        go_loopw [6, 33] (fun f i wx => f = .int .u8 m ∧ wx = wr ∧ ∃ j : Nat, j ≤ lk.length ∧ i = .int .i64 j ∧ (∀ i (a : i < lk.length), i < j → decide (lk[i] ∉ st.2) = false)) (fun _ i _ => lk.length - (intOf i).toNat)
        case atStart => exact ⟨rfl, rfl, 0, Nat.zero_le _, rfl, by omega⟩
        case round =>
          obtain ⟨rfl, rfl, j, hj, rfl, hpre⟩ := hrel
          have HP := Lib.hid hpre; clear hpre
          by_cases hjl : j < lk.length
          · have gl := hl.cell j hjl
            have hx := (hlm lk[j]).1 (List.getElem_mem hjl)
            obtain ⟨x, hxe⟩ : ∃ x : Nat, lk[j] = (x : Int) := ⟨lk[j].toNat, by omega⟩
            rw [hxe] at gl hx
            have HX := Lib.hid hxe; clear hxe
            have hx4 : x < 4 := by omega
            have hmx := hM.2 x hx4
            by_cases hin : (x : Int) ∈ st.2
            · have hb : hasB m x = false := by rw [hmx]; simp [hin]
              clear hmx
              go_wp2_with (go_at_call 45; refine (has_c m x hM.1 hx4 _).mono ?_; rintro e w' ⟨rfl, rfl⟩)
              go_roundw
              case rel =>
                refine ⟨rfl, trivial, j + 1, by omega, by go_num, fun i a hi => ?_⟩
                by_cases e : i = j
                · subst e; rw [HX.out]; simpa using hin
                · exact HP.out i a (by omega)
              case measure => simp [intOf]; omega
            · have hb : hasB m x = true := by rw [hmx]; simp [hin]; omega
              clear hmx
              have hfind : lk.find? (fun m => decide (m ∉ st.2)) = some (x : Int) := by
                rw [← HX.out]
                exact find?_at hjl (by rw [HX.out]; simpa using hin) HP.out
              have hnew : drawSt c.villages order.length (order.take (k + 1)) = (st.1.set vi x, (x : Int) :: st.2) := by
                rw [HST.out, hfind]; rfl
              have HNEW := Lib.hid hnew
              clear hfind hnew
              have hsl : vi < st.1.length := by have := HLEN.out; omega
              have gst := hI.cell vi hsl
              have fst := hI.free vi
              have hI2 := hI.set vi x
              have hlen1 := HLEN.out
              go_wp2_with (first | (go_at_call 45; refine (has_c m x hM.1 hx4 _).mono ?_; rintro e w' ⟨rfl, rfl⟩) | (go_at_call 47; refine (without_c m x hM.1 hx4 _).mono ?_; rintro e w' ⟨rfl, rfl⟩))
              go_roundw
              case rel =>
                exact ⟨k + 1, by omega, by go_num, woB m x, rfl, by rw [HNEW.out]; exact mask_wo hM x hx4, by rw [HNEW.out]; exact hI2, hB.setCell hg _⟩
              case measure => simp [intOf]; omega
          · have hnew : drawSt c.villages order.length (order.take (k + 1)) = st := by
              rw [HST.out, find?_no (fun i a => HP.out i a (by omega))]
            have HNEW := Lib.hid hnew; clear hnew
            go_wp2
            go_roundw
            case rel => exact ⟨k + 1, by omega, by go_num, m, rfl, by rw [HNEW.out]; exact hM, by rw [HNEW.out]; exact hI, hB⟩
            case measure => simp [intOf]; omega
      · obtain hke : k = order.length := by omega
        have hlen : (drawSt c.villages order.length order).1.length = order.length := by
          rw [drawSt, drawSt_len c.villages order.length]; simp
        rw [hke, List.take_length] at hI
        have HK := Lib.hid hke; clear hke
        have HLEN := Lib.hid hlen; clear hlen
        go_wp2
        go_ret
        refine ⟨_, rfl, ?_, hB⟩
        have h3 := hI.ints (by rw [HLEN.out]; omega)
        rw [HLEN.out] at h3
        exact h3.wide fun b hb _ => by omega

end Go.Proofs.YtmlikgjfpmjdcaaGreatDoor

/- The trade, in plain words: who points at whom, rounds, and that each round lets somebody go; conditions: up to four places. -/
namespace Go.Proofs.YtmlikgjfpmjdcaaGreatDoor
open Go.RowKit

/-- Where the chain from a stands after k steps, when it stops at v. -/
def chase (p : Nat → Nat) (v : Nat) : Nat → Nat → Nat
  | 0, a => a
  | k + 1, a => if chase p v k a = v then v else p (chase p v k a)
def cyc (p : Nat → Nat) (n v : Nat) : Bool := chase p v n (p v) == v
def popc (m : Nat) : Nat := ((List.range 4).filter (hasB m)).length
/-- The owner that village v points at. -/
def ptV (vs : List Vil) (order : List Int) (m v : Nat) : Nat :=
  match (vs.getD v ⟨0, 0, []⟩).likes.find? (fun x => hasB m (placeOf order x).toNat) with
  | some x => (placeOf order x).toNat
  | none => 0
def tStep (order : List Int) (p : Nat → Nat) (n m : Nat) (s : List Int × Nat) (v : Nat) : List Int × Nat :=
  if hasB m v = true ∧ cyc p n v = true then (s.1.set v (order.getD (p v) 0), woB s.2 v) else s
def tSteps (order : List Int) (p : Nat → Nat) (n m : Nat) (out : List Int) (k : Nat) : List Int × Nat :=
  (List.range k).foldl (tStep order p n m) (out, m)
def tradeN (vs : List Vil) (order : List Int) : Nat → Nat → List Int → List Int
  | 0, _, out => out
  | k + 1, m, out => if m = 0 then out else tradeN vs order k (tSteps order (ptV vs order m) order.length m out order.length).2 (tSteps order (ptV vs order m) order.length m out order.length).1
def tradeF (vs : List Vil) (order : List Int) : List Int := tradeN vs order order.length (allB order.length) (List.replicate order.length 0)

theorem chase_stop {p : Nat → Nat} {v k a : Nat} (h : chase p v k a = v) : ∀ j, chase p v (k + j) a = v
  | 0 => h
  | j + 1 => by rw [← Nat.add_assoc, chase, if_pos (chase_stop h j)]
theorem chase_next {p : Nat → Nat} {v k a : Nat} (h : chase p v k a ≠ v) : chase p v (k + 1) a = p (chase p v k a) := by rw [chase, if_neg h]
theorem chase_lt {p : Nat → Nat} (N : Nat) (hp : ∀ i, i < N → p i < N) {v : Nat} (hv : v < N) : ∀ k a, a < N → chase p v k a < N
  | 0, _, h => h
  | k + 1, a, h => by rw [chase]; split; · exact hv
                      · exact hp _ (chase_lt N hp hv k a h)
theorem chase_in {p : Nat → Nat} {T : Nat → Prop} (hp : ∀ i, T i → T (p i)) {v : Nat} (hv : T v) : ∀ k a, T a → T (chase p v k a)
  | 0, _, h => h
  | k + 1, a, h => by rw [chase]; split; · exact hv
                      · exact hp _ (chase_in hp hv k a h)
theorem chase_congr {p q : Nat → Nat} {T : Nat → Prop} (hp : ∀ i, T i → T (p i)) (e : ∀ i, T i → p i = q i) {v : Nat} (hv : T v) : ∀ k a, T a → chase p v k a = chase q v k a
  | 0, _, _ => rfl
  | k + 1, a, h => by
    have h1 := chase_congr hp e hv k a h
    have h2 := chase_in hp hv k a h
    rw [chase, chase, ← h1, ← e _ h2]

def four (a b c d : Nat) (i : Nat) : Nat := if i = 0 then a else if i = 1 then b else if i = 2 then c else d
def chk1 : Bool := (List.range 4).all fun a => (List.range 4).all fun b => (List.range 4).all fun c => (List.range 4).all fun d => (List.range 16).all fun m =>
  m == 0 || !((List.range 4).all fun i => !hasB m i || hasB m (four a b c d i)) || (List.range 4).any fun v => hasB m v && cyc (four a b c d) (popc m - 1) v
def chk2 : Bool := (List.range 5).all fun n => (List.range 4).all fun a => (List.range 4).all fun b => (List.range 4).all fun c => (List.range 4).all fun d =>
  !((List.range n).all fun i => decide (four a b c d i < n)) || (List.range n).all fun v => cyc (four a b c d) n v == cyc (four a b c d) (n - 1) v
set_option maxRecDepth 1000000 in
theorem chk1_ok : chk1 = true := by decide +kernel
set_option maxRecDepth 1000000 in
theorem chk2_ok : chk2 = true := by decide +kernel

theorem all_range {n : Nat} {f : Nat → Bool} (h : (List.range n).all f = true) {i : Nat} (hi : i < n) : f i = true := by
  rw [List.all_eq_true] at h; exact h i (by simpa using hi)
theorem four_eq (p : Nat → Nat) : ∀ i, i < 4 → p i = four (p 0) (p 1) (p 2) (p 3) i
  | 0, _ => rfl
  | 1, _ => rfl
  | 2, _ => rfl
  | 3, _ => rfl
  | k + 4, h => by omega
theorem cyc_congr {p q : Nat → Nat} {T : Nat → Prop} (hp : ∀ i, T i → T (p i)) (e : ∀ i, T i → p i = q i) {n v : Nat} (hv : T v) : cyc p n v = cyc q n v := by
  rw [cyc, cyc, ← e v hv, chase_congr hp e hv n _ (hp v hv)]

/-- Somebody is on a cycle. -/
theorem cyc_some {p : Nat → Nat} {m : Nat} (hm : m < 16) (h0 : m ≠ 0) (h4 : ∀ i, i < 4 → p i < 4) (hc : ∀ i, i < 4 → hasB m i = true → hasB m (p i) = true) {n : Nat} (hn : popc m ≤ n + 1) :
    ∃ v, v < 4 ∧ hasB m v = true ∧ cyc p n v = true := by
  have h := all_range (all_range (all_range (all_range (all_range chk1_ok (h4 0 (by omega))) (h4 1 (by omega))) (h4 2 (by omega))) (h4 3 (by omega))) hm
  have h1 : (m == 0) = false := by simpa using h0
  have h2 : ((List.range 4).all fun i => !hasB m i || hasB m (four (p 0) (p 1) (p 2) (p 3) i)) = true := by
    rw [List.all_eq_true]
    intro i hi
    have hi : i < 4 := by simpa using hi
    rw [← four_eq p i hi]
    have := hc i hi
    cases hb : hasB m i <;> simp_all
  rw [h1, h2] at h
  simp only [Bool.not_true, Bool.false_or, List.any_eq_true, List.mem_range, Bool.and_eq_true] at h
  obtain ⟨v, hv, hb, hy⟩ := h
  refine ⟨v, hv, hb, ?_⟩
  rw [← cyc_congr (T := fun i => i < 4) h4 (four_eq p) hv] at hy
  rw [cyc, beq_iff_eq] at hy ⊢
  obtain ⟨j, hj⟩ : ∃ j, n = (popc m - 1) + j := ⟨n - (popc m - 1), by omega⟩
  rw [hj]
  exact chase_stop hy j
/-- A step less says the same. -/
theorem cyc_less {p : Nat → Nat} {n : Nat} (hn : n ≤ 4) (h : ∀ i, i < n → p i < n) {v : Nat} (hv : v < n) : cyc p n v = cyc p (n - 1) v := by
  have e := all_range chk2_ok (show n < 5 by omega)
  have g : ∀ i, i < n → p i = four (if 0 < n then p 0 else 0) (if 1 < n then p 1 else 0) (if 2 < n then p 2 else 0) (if 3 < n then p 3 else 0) i := by
    intro i hi
    have : i = 0 ∨ i = 1 ∨ i = 2 ∨ i = 3 := by omega
    rcases this with rfl | rfl | rfl | rfl <;> simp [four, hi]
  have l : ∀ i, (if i < n then p i else 0) < 4 := by
    intro i
    split
    · have := h i ‹_›; omega
    · omega
  have e2 := all_range (all_range (all_range (all_range e (l 0)) (l 1)) (l 2)) (l 3)
  have h2 : ((List.range n).all fun i => decide (four (if 0 < n then p 0 else 0) (if 1 < n then p 1 else 0) (if 2 < n then p 2 else 0) (if 3 < n then p 3 else 0) i < n)) = true := by
    rw [List.all_eq_true]
    intro i hi
    have hi : i < n := by simpa using hi
    rw [← g i hi]
    simpa using h i hi
  rw [h2] at e2
  simp only [Bool.not_true, Bool.false_or] at e2
  have e3 := all_range e2 hv
  rw [← cyc_congr (T := fun i => i < n) h g hv, ← cyc_congr (T := fun i => i < n) h g hv, beq_iff_eq] at e3
  exact e3

theorem popc_less : ∀ m, m < 16 → ∀ k, k < 16 → (∀ j, j < 4 → hasB k j = true → hasB m j = true) → (∃ j, j < 4 ∧ hasB m j = true ∧ hasB k j = false) → popc k < popc m := by
  have h : ((List.range 16).all fun m => (List.range 16).all fun k => !((List.range 4).all fun j => !hasB k j || hasB m j) || !((List.range 4).any fun j => hasB m j && !hasB k j) || decide (popc k < popc m)) = true := by decide +kernel
  intro m hm k hk h1 h2
  have e := all_range (all_range h hm) hk
  have a1 : ((List.range 4).all fun j => !hasB k j || hasB m j) = true := by
    rw [List.all_eq_true]
    intro i hi
    have := h1 i (by simpa using hi)
    cases hb : hasB k i <;> simp_all
  have a2 : ((List.range 4).any fun j => hasB m j && !hasB k j) = true := by
    rw [List.any_eq_true]
    obtain ⟨j, hj, b1, b2⟩ := h2
    exact ⟨j, by simpa using hj, by simp [b1, b2]⟩
  rw [a1, a2] at e
  simpa using e
theorem popc_all : ∀ n, n ≤ 4 → popc (allB n) = n := by decide
theorem popc_pos : ∀ m, m < 16 → m ≠ 0 → 0 < popc m := by decide +kernel

theorem tSteps_succ (order : List Int) (p : Nat → Nat) (n m : Nat) (out : List Int) (k : Nat) : tSteps order p n m out (k + 1) = tStep order p n m (tSteps order p n m out k) k := by
  rw [tSteps, List.range_succ, List.foldl_append]; rfl
theorem tSteps_len (order : List Int) (p : Nat → Nat) (n m : Nat) (out : List Int) : ∀ k, (tSteps order p n m out k).1.length = out.length
  | 0 => rfl
  | k + 1 => by
    have := tSteps_len order p n m out k
    rw [tSteps_succ, tStep]; split <;> simp [this]
/-- The mask after k villages. -/
theorem tSteps_mask (order : List Int) (p : Nat → Nat) (n : Nat) {m : Nat} (hm : m < 16) (out : List Int) : ∀ k, k ≤ 4 →
    (tSteps order p n m out k).2 < 16 ∧ ∀ j, j < 4 → hasB (tSteps order p n m out k).2 j = (hasB m j && !(decide (j < k) && cyc p n j))
  | 0, _ => ⟨hm, fun j _ => by simp [tSteps]⟩
  | k + 1, hk => by
    obtain ⟨h1, h2⟩ := tSteps_mask order p n hm out k (by omega)
    rw [tSteps_succ, tStep]
    split
    · rename_i hc
      refine ⟨woB_lt h1, fun j hj => ?_⟩
      simp only
      rw [woB_has _ h1 k (by omega) j hj, h2 j hj]
      by_cases e : j = k
      · subst e; simp [hc.2]
      · have : (decide (j < k + 1)) = decide (j < k) := by simp; omega
        simp [e, this]
    · rename_i hc
      refine ⟨h1, fun j hj => ?_⟩
      rw [h2 j hj]
      by_cases e : j = k
      · subst e
        cases hb : hasB m j <;> cases hy : cyc p n j <;> simp_all
      · have : (decide (j < k + 1)) = decide (j < k) := by simp; omega
        rw [this]

theorem placeOf_at {l : List Int} (h : l.Nodup) {i : Nat} (hi : i < l.length) : placeOf l l[i] = i := by
  have : l.idxOf? l[i] = some i := by
    rw [List.idxOf?, List.findIdx?_eq_some_iff_getElem]
    refine ⟨hi, by simp, fun j hj => ?_⟩
    simp only [Bool.not_eq_true, beq_eq_false_iff_ne, ne_eq]
    exact fun e => by have := (List.getElem_inj h).1 e; omega
  rw [placeOf, this]
theorem placeOf_bd {l : List Int} {x : Int} (h : x ∈ l) : 0 ≤ placeOf l x ∧ placeOf l x < l.length := by
  refine ⟨(placeOf_nonneg l x).2 h, ?_⟩
  rw [placeOf]
  split
  · rename_i i hi
    rw [List.idxOf?, List.findIdx?_eq_some_iff_getElem] at hi
    obtain ⟨h1, _⟩ := hi
    omega
  · rename_i hi
    cases l with
    | nil => cases h
    | cons a t => simp; omega

/-- Who points at whom: within. -/
theorem ptV_lt (vs : List Vil) (order : List Int) (m v : Nat) (h0 : 0 < order.length) (hm : ∀ j, hasB m j = true → j < order.length) : ptV vs order m v < order.length := by
  rw [ptV]
  split
  · rename_i x hx
    have h1 : (fun x => hasB m (placeOf order x).toNat) x = true := List.find?_some (p := fun x => hasB m (placeOf order x).toNat) hx
    exact hm _ h1
  · exact h0
theorem ptV_in {vs : List Vil} {order : List Int} {m v : Nat} (hp : PermOf order.length order) (hv : v < vs.length) (hl : PermOf order.length vs[v].likes) (h : ∃ u, u < order.length ∧ hasB m u = true) : hasB m (ptV vs order m v) = true := by
  rw [ptV]
  split
  · rename_i x hx
    exact List.find?_some (p := fun x => hasB m (placeOf order x).toNat) hx
  · rename_i hx
    obtain ⟨u, hu, hb⟩ := h
    rw [List.find?_eq_none] at hx
    have h1 : order[u] ∈ vs[v].likes := (hl.mem _).2 ((hp.mem _).1 (List.getElem_mem hu))
    have h2 : (vs.getD v ⟨0, 0, []⟩).likes = vs[v].likes := by simp [hv]
    rw [h2] at hx
    have h3 := hx _ h1
    rw [placeOf_at hp.nodup hu] at h3
    exact absurd hb h3

end Go.Proofs.YtmlikgjfpmjdcaaGreatDoor

