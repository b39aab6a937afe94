/- The walk of EdgeTexts: it hands back true, whatever the arguments; conditions: they read as an edge, furrows, a text and numbers; the library's variables hold what they are laid with. -/
import Derived.Test.YtbpfhoihfoojfaaGreatDoorR5
import Derived.Test.YtbpfhoihfoojfaaGreatDoorR6
import Derived.Test.YtbpfhoihfoojfaaGreatDoorErd
namespace Go.Proofs.YtbpfhoihfoojfaaGreatDoor
open Go.RowKit

/-- The text of an edge and furrows, none where they are not valid. -/
def txE (x : Edg) (l : List Fu) : List UInt8 := if bothX x l = 0 then edT numD x l else []
theorem txE_str (x : Edg) (l : List Fu) : (if bothX x l = 0 then str (edT numD x l) else ⟨#[]⟩) = str (txE x l) := by
  unfold txE
  split <;> rfl
theorem txE_len (x : Edg) (l : List Fu) : (txE x l).length ≤ 500 := by
  unfold txE
  split
  · rename_i h
    exact edT_len h
  · simp
theorem wa_c {A A' : Nat → Prop} {w : World} {x : Edg} {vx v : Value} {l : List Fu} (hx : ClsM A w vx x.claims) (h : FusM A' w v l) (hG : GV w) :
    Calls Tryz.prog 9 #[.agg #[.int .i64 x.points, .int .i64 x.bend, vx], v] w fun e w' => e = .returned (.tuple #[.string (str (txE x l)), .int .i64 (bothX x l)]) ∧ Below w.heap.size w w' := by
  have := write_c hx h hG
  rw [txE_str] at this
  exact this
theorem wb_c {A A' : Nat → Prop} {w : World} {x : Edg} {vx v : Value} {l : List Fu} (hx : ClsM A w vx x.claims) (h : FusM A' w v l) (hG : GV w) :
    Calls Tryz.prog 10 #[.agg #[.int .i64 x.points, .int .i64 x.bend, vx], v] w fun e w' => e = .returned (.tuple #[.string (str (txE x l)), .int .i64 (bothX x l)]) ∧ Below w.heap.size w w' := by
  have := write_r hx h hG
  rw [txE_str] at this
  exact this
/-- Grown, apart from the hand. -/
structure Kp (hb : Nat) (w w' : World) : Prop where
  size : w.heap.size ≤ w'.heap.size
  keep : ∀ k, k < w.heap.size → k ≠ hb → w'.heap[k]? = w.heap[k]?
theorem Kp.refl (hb : Nat) (w : World) : Kp hb w w := ⟨Nat.le_refl _, fun _ _ _ => rfl⟩
theorem Kp.call {hb : Nat} {w u u' : World} (h : Kp hb w u) (hB : Below u.heap.size u u') : Kp hb w u' := ⟨Nat.le_trans h.size hB.size, fun k hk hn => (hB.block k (by have := h.size; omega)).trans (h.keep k hk hn)⟩
theorem Kp.hand {hb : Nat} {w u u' : World} (h : Kp hb w u) (hg : u.grownBy u' (some hb)) : Kp hb w u' := ⟨Nat.le_trans h.size hg.size, fun k hk hn => (hg.block k (by have := h.size; omega) (fun e => hn (by cases e; rfl))).trans (h.keep k hk hn)⟩

theorem own_base {B B' n sz : Nat} {e : TypeId} {w : World} {v : Value} {xs : List Value} (h : Own B w e sz v n xs) (hb : B' ≤ B) : Own B' w e sz v n xs := ⟨h.1, h.2.imp id fun ⟨g, cap, cur, a, b, c⟩ => ⟨g, cap, cur, a, Nat.le_trans hb b, c⟩⟩
theorem own_arr_ne {B n sz b : Nat} {e t : TypeId} {w : World} {v : Value} {xs : List Value} {c : Array Value} (h : Own B w e sz v n xs) (hX : Blk b c t w) (hn : e ≠ t) : Arr (fun q => q ≠ b) w v n xs := by
  have h1 := own_ne_t h hX hn
  obtain ⟨ao, cap, hv, h2, h3, h4⟩ := Own.arr h
  refine ⟨ao, cap, hv, h2, h3, h4.imp id ?_⟩
  rintro ⟨g, off, he, hA, hl, hc⟩
  exact ⟨g, off, he, fun e => h1 (by rw [hv, he, e]; rfl), hl, hc⟩

/-- What stands while texts are gathered in a row of the call's own. -/
structure KP (w2 w3 : World) (bt : Nat) (v : Value) (w : World) : Prop where
  keep : ∀ k, k < w3.heap.size → k ≠ bt → w.heap[k]? = w3.heap[k]?
  size : w3.heap.size ≤ w.heap.size
  bel : Below w2.heap.size w2 w
  own : ∀ g, v.ownBlock = some g → g = bt ∨ w3.heap.size ≤ g
theorem KP.call {w2 w3 w w' : World} {bt : Nat} {v : Value} (h : KP w2 w3 bt v w) (hB : Below w.heap.size w w') : KP w2 w3 bt v w' :=
  ⟨fun k hk hn => (hB.block k (by have := h.size; omega)).trans (h.keep k hk hn), by have := h.size; have := hB.size; omega, bnw h.bel hB, h.own⟩
theorem KP.turn {w2 w3 w w' : World} {bt n : Nat} {v v' : Value} {xs : List Value} (h : KP w2 w3 bt v w) (ho : Own w2.heap.size w 9 1 v n xs) (hT : Turned w w' v v') : KP w2 w3 bt v' w' := by
  have hz := h.size
  refine ⟨fun k hk hn => (hT.block k (by omega) (fun e => ?_)).trans (h.keep k hk hn), by have := hT.size; omega, hT.below2 (B' := w2.heap.size) ho h.bel h.bel.size (Nat.le_refl _), fun g hg => ?_⟩
  · rcases h.own k e with h1 | h1
    · exact hn h1
    · omega
  · rcases hT.place with e | e
    · exact h.own g (e ▸ hg)
    · right
      have := Option.some.inj (hg.symm.trans e)
      omega

attribute [local go_sem] str_toList
set_option maxRecDepth 100000 in
set_option maxHeartbeats 8000000 in
theorem edgeTexts_c {A A1 A2 : Nat → Prop} {w : World} {vx vl vn : Value} {x : Edg} {l : List Fu} {nums : List Int} (hx : ClsM A w vx x.claims) (hl : FusM A1 w vl l) (t : List UInt8) (htl : t.length ≤ 9000000000000000000) (hn : Ints A2 w vn nums)
    (at8 hx8 : Int) (ha : -9223372036854775808 ≤ at8 ∧ at8 ≤ 9223372036854775807) (hh : -9223372036854775808 ≤ hx8 ∧ hx8 ≤ 9223372036854775807) (by8 : UInt8) (hG : GV w) :
    Calls Tryz.prog 3 #[.agg #[.int .i64 x.points, .int .i64 x.bend, vx], vl, .string (str t), vn, .int .i64 at8, .int .i64 hx8, .int .u8 by8.toNat] w fun e w' => e = .returned (.bool true) ∧ Below w.heap.size w w' := by
  obtain ⟨ax, cx, rfl, _, _⟩ := hx.shape
  obtain ⟨al, cl, rfl, _, _⟩ := hl.shape
  obtain ⟨an, cn, rfl, _, _⟩ := hn.shape
  have hz := str_size t
  obtain ⟨w1, hw1⟩ : ∃ w1, w1 = w.alloc (.cells #[.int .i64 x.points, .int .i64 x.bend, .slice ax x.claims.length cx] 24) := ⟨_, rfl⟩
  obtain ⟨b7, hb7⟩ : ∃ b, b = w.heap.size := ⟨_, rfl⟩
  have hX1 : Blk b7 #[.int .i64 x.points, .int .i64 x.bend, .slice ax x.claims.length cx] 24 w1 := by rw [hw1, hb7]; exact Blk.new _ _ _
  have hB1 : Below w.heap.size w w1 := by rw [hw1]; exact (Below.refl _ w).alloc (Nat.le_refl _) _
  have hn1 := hn.call hB1
  go_enter Tryz.func3, Tryz.ntmps3
  go_upto_region 1 with fail
  rw [← hw1, ← hb7]
  clear hw1 hb7
  go_cut [52] (fun s52 wx => ∃ b : Bool, s52 = .bool b ∧ wx = w1)
  case first =>
    have c2 := hX1.cell 2
    by_cases q1 : 20 < x.claims.length
    · have d1 : decide ((20 : Int) < x.claims.length) = true := decide_eq_true (by omega)
      go_wp2_with fail
      go_meet
      case rel => exact ⟨_, rfl, rfl⟩
    · have d1 : decide ((20 : Int) < x.claims.length) = false := decide_eq_false (by omega)
      by_cases q2 : 20 < l.length
      · have d2 : decide ((20 : Int) < l.length) = true := decide_eq_true (by omega)
        go_wp2_with fail
        go_meet
        case rel => exact ⟨_, rfl, rfl⟩
      · have d2 : decide ((20 : Int) < l.length) = false := decide_eq_false (by omega)
        by_cases q3 : 300 < t.length
        · have d3 : decide ((300 : Int) < t.length) = true := decide_eq_true (by omega)
          by_cases q4 : t.length ≤ 500
          · have d4 : decide ((t.length : Int) ≤ 500) = true := decide_eq_true (by omega)
            go_wp2_with fail
            go_meet
            case rel => exact ⟨_, rfl, rfl⟩
          · have d4 : decide ((t.length : Int) ≤ 500) = false := decide_eq_false (by omega)
            go_wp2_with fail
            go_meet
            case rel => exact ⟨_, rfl, rfl⟩
        · have d3 : decide ((300 : Int) < t.length) = false := decide_eq_false (by omega)
          go_wp2_with fail
          go_meet
          case rel => exact ⟨_, rfl, rfl⟩
  case rest =>
  obtain ⟨b, rfl, rfl⟩ := hcut
  rename World => w1
  cases b with
  | true =>
    go_wp2_with fail
    refine (surveyed_c _).mono ?_
    rintro e wz ⟨rfl, hBz⟩
    go_wp2_with fail
    go_ret
    exact ⟨rfl, bnw hB1 hBz⟩
  | false =>
    go_wp2_with fail
    refine (newHand_c hn1).mono ?_
    rintro e w2 ⟨rfl, hH2, hBn⟩
    obtain ⟨hb, hhb⟩ : ∃ b, b = w1.heap.size := ⟨_, rfl⟩
    rw [← hhb] at hH2 ⊢
    have hhbw : w.heap.size ≤ hb := by rw [hhb]; exact hB1.size
    have hhb7 : b7 < hb := by rw [hhb]; exact hX1.lt
    have hX2 := hX1.call hBn
    have hB2 := bnw hB1 hBn
    have hsz2 := hH2.lt
    clear hhb hBn hX1 hB1 hn1
    go_wp2_with fail
    refine (edgeOf_c hH2 (by omega) (pts := 4) (cl := 7) (by omega) (by omega)).mono ?_
    rintro e w3 ⟨⟨md, vm, rfl, hmo, hx4, hx7, hO3⟩, ⟨k3, hk3, hH3⟩, hG3⟩
    have hB3 := bhand hB2 hG3 hhbw
    have hX3 := hX2.hand hG3 (by omega)
    obtain ⟨am, cm, rfl⟩ := own_slice hO3
    obtain ⟨w4, hw4⟩ : ∃ w4, w4 = w3.alloc (.cells #[.int .i64 md.points, .int .i64 md.bend, .slice am md.claims.length cm] 24) := ⟨_, rfl⟩
    obtain ⟨b16, hb16⟩ : ∃ b, b = w3.heap.size := ⟨_, rfl⟩
    have hY4 : Blk b16 #[.int .i64 md.points, .int .i64 md.bend, .slice am md.claims.length cm] 24 w4 := by rw [hw4, hb16]; exact Blk.new _ _ _
    have hA4 : Below w3.heap.size w3 w4 := by rw [hw4]; exact (Below.refl _ w3).alloc (Nat.le_refl _) _
    have hX4 := hX3.call hA4
    have hB4 := bnw hB3 hA4
    have hC4 : ClsM (fun q => w2.heap.size ≤ q ∧ q < w4.heap.size) w4 (.slice am md.claims.length cm) md.claims := ((hO3.cls).call hA4).wide fun q hq hl => ⟨hq, hl⟩
    have hH4 := hH3.call hA4
    have hb16h : hb < b16 := by rw [hb16]; have := hG3.size; omega
    have hw24 : w2.heap.size ≤ w4.heap.size := by have := hG3.size; have := hA4.size; omega
    have hmp := hmo.p
    have hbl4 := hH4.lt
    go_upto_region 5 with fail
    rw [← hw4, ← hb16]
    clear hw4 hb16 hO3 hG3 hA4 hH3 hX3 hB3 hH2 hX2 hB2 hmo
    go_cut [17, 18, 19] from 58 to 68 (fun s17 s18 s19 wx => ∃ (b17 b18 b19 : Nat) (af : Option Addr) (cf : Nat) (L : List Fu), s17 = .slice (some ⟨b17, 0, none⟩) 2 2 ∧ s18 = .slice (some ⟨b18, 0, none⟩) 2 2 ∧ s19 = .slice (some ⟨b19, 0, none⟩) 1 1 ∧ Blk b17 #[.int .i64 x.points, .int .i64 x.bend, .slice ax x.claims.length cx, .int .i64 md.points, .int .i64 md.bend, .slice am md.claims.length cm] 24 wx ∧ Blk b18 #[.slice al l.length cl, .slice af L.length cf] 25 wx ∧ Blk b19 #[.string (str t)] 9 wx ∧ ClsM (fun q => w2.heap.size ≤ q ∧ q < w4.heap.size) wx (.slice am md.claims.length cm) md.claims ∧ Own w4.heap.size wx 73 3 (.slice af L.length cf) L.length (L.flatMap fcells) ∧ w4.heap.size ≤ b17 ∧ w4.heap.size ≤ b18 ∧ w4.heap.size ≤ b19 ∧ Below w.heap.size w wx)
    case first =>
      go_wp2_with fail
      refine wp_region_mix2 (.one 0 (.one 1 (.pur 3 (.pur 4 (.one 5 (.pur 8 (.three 2 (.two 6 (.pur 10 (.two 7 (.pur 11 (.act 9 (.pur 12 .fin))) 9 (.act 7 (.pur 11 (.pur 12 .fin))))) 9 (.act 6 (.pur 10 (.act 7 (.pur 11 (.pur 12 .fin)))))) 6 (.three 2 (.pur 10 (.two 7 (.pur 11 (.act 9 (.pur 12 .fin))) 9 (.act 7 (.pur 11 (.pur 12 .fin))))) 7 (.two 2 (.pur 10 (.pur 11 (.act 9 (.pur 12 .fin)))) 9 (.act 2 (.pur 10 (.pur 11 (.pur 12 .fin))))) 9 (.two 2 (.pur 10 (.act 7 (.pur 11 (.pur 12 .fin)))) 7 (.act 2 (.pur 10 (.pur 11 (.pur 12 .fin)))))) 9 (.two 2 (.act 6 (.pur 10 (.act 7 (.pur 11 (.pur 12 .fin))))) 6 (.two 2 (.pur 10 (.act 7 (.pur 11 (.pur 12 .fin)))) 7 (.act 2 (.pur 10 (.pur 11 (.pur 12 .fin))))))))))))) 99 (fun u => Blk b7 #[.int .i64 x.points, .int .i64 x.bend, .slice ax x.claims.length cx] 24 u ∧ Blk b16 #[.int .i64 md.points, .int .i64 md.bend, .slice am md.claims.length cm] 24 u) (fun _ => True) (by kernel_rfl) (by kernel_rfl) rfl (by kernel_rfl) ⟨hX4.qt ((Qt.refl _).drewN 1), hY4.qt ((Qt.refl _).drewN 1)⟩ (fun wd hqd _ => ?_)
      have hX := hX4.qt hqd
      have hY := hY4.qt hqd
      have hH := hH4.call (hqd.below _)
      have hC := hC4.call (hqd.below _)
      have hBw := bnw hB4 (hqd.below _)
      have hBa : Kp hb w4 wd := (Kp.refl hb w4).call (hqd.below _)
      clear hqd
      refine mix_load2 rfl rfl rfl (.agg #[.int .i64 x.points, .int .i64 x.bend, .slice ax x.claims.length cx]) (fun w' h => by have h : (fun u => Blk b7 #[.int .i64 x.points, .int .i64 x.bend, .slice ax x.claims.length cx] 24 u ∧ Blk b16 #[.int .i64 md.points, .int .i64 md.bend, .slice am md.claims.length cm] 24 u) w' := h; have h0 := h.1.cell 0; have h1 := h.1.cell 1; have h2 := h.1.cell 2; go_simp) rfl ?_
      refine mix_load2 rfl rfl rfl (.agg #[.int .i64 md.points, .int .i64 md.bend, .slice am md.claims.length cm]) (fun w' h => by have h : (fun u => Blk b7 #[.int .i64 x.points, .int .i64 x.bend, .slice ax x.claims.length cx] 24 u ∧ Blk b16 #[.int .i64 md.points, .int .i64 md.bend, .slice am md.claims.length cm] 24 u) w' := h; have h0 := h.2.cell 0; have h1 := h.2.cell 1; have h2 := h.2.cell 2; go_simp) rfl ?_
      refine mix_pur2 rfl (fun K hK => ?_)
      go_simp
      first | refine ⟨_, fun _ => rfl, hK _ ?_⟩ | refine hK _ ?_
      clear hK K
      refine mix_pur2 rfl (fun K hK => ?_)
      go_simp
      first | refine ⟨_, fun _ => rfl, hK _ ?_⟩ | refine hK _ ?_
      clear hK K
      refine mix_load2 rfl rfl rfl (.agg #[.int .i64 md.points, .int .i64 md.bend, .slice am md.claims.length cm]) (fun w' h => by have h : (fun u => Blk b7 #[.int .i64 x.points, .int .i64 x.bend, .slice ax x.claims.length cx] 24 u ∧ Blk b16 #[.int .i64 md.points, .int .i64 md.bend, .slice am md.claims.length cm] 24 u) w' := h; have h0 := h.2.cell 0; have h1 := h.2.cell 1; have h2 := h.2.cell 2; go_simp) rfl ?_
      refine mix_pur2 rfl (fun K hK => ?_)
      go_simp
      first | refine ⟨_, fun _ => rfl, hK _ ?_⟩ | refine hK _ ?_
      clear hK K
      refine mix_three2 rfl rfl rfl false false false rfl rfl rfl (fun K hK => ?_) (fun K hK => ?_) (fun K hK => ?_)
      · go_simp
        have hBn := (Below.refl wd.heap.size wd).alloc (Nat.le_refl _) (.cells #[.int .i64 x.points, .int .i64 x.bend, .slice ax x.claims.length cx, .int .i64 md.points, .int .i64 md.bend, .slice am md.claims.length cm] 24)
        have hH := hH.call hBn
        have hC := hC.call hBn
        have hX := hX.call hBn
        have hY := hY.call hBn
        have hE1 : Blk wd.heap.size #[.int .i64 x.points, .int .i64 x.bend, .slice ax x.claims.length cx, .int .i64 md.points, .int .i64 md.bend, .slice am md.claims.length cm] 24 (wd.alloc (.cells #[.int .i64 x.points, .int .i64 x.bend, .slice ax x.claims.length cx, .int .i64 md.points, .int .i64 md.bend, .slice am md.claims.length cm] 24)) := Blk.new wd _ _
        obtain ⟨b17, hb17⟩ : ∃ b, b = wd.heap.size := ⟨_, rfl⟩
        have gb17 : w4.heap.size ≤ b17 := by rw [hb17]; exact hBa.size
        rw [← hb17] at hE1 ⊢
        have hBw := bnw hBw hBn
        have hBa := hBa.call hBn
        generalize wd.alloc (.cells #[.int .i64 x.points, .int .i64 x.bend, .slice ax x.claims.length cx, .int .i64 md.points, .int .i64 md.bend, .slice am md.claims.length cm] 24) = wa1 at *
        refine hK _ _ ⟨hX, hY⟩ ?_
        clear hK K hBn hb17
        refine mix_two2 rfl rfl false false rfl rfl (fun K hK => ?_) (fun K hK => ?_)
        · go_simp
          refine (furrowsOf_c hH (by omega) hmp am md.claims.length cm).mono ?_
          rintro e wa2 ⟨⟨L, vf, rfl, -, hF⟩, ⟨k6, hk6, hH6⟩, hG⟩
          obtain ⟨af, cf, rfl⟩ := own_slice hF
          have hF := own_base hF hBa.size
          have hX := hX.hand hG (by omega)
          have hY := hY.hand hG (by omega)
          have hE1 := hE1.hand hG (by omega)
          have hC := Elems.only hC hG (by omega)
          have hBw := bhand hBw hG hhbw
          have hBa : Kp hb w4 wa2 := hBa.hand hG
          refine hK _ _ ⟨hX, hY⟩ ?_
          clear hK K hG hH hH6
          refine mix_pur2 rfl (fun K hK => ?_)
          go_simp
          first | refine ⟨_, fun _ => rfl, hK _ ?_⟩ | refine hK _ ?_
          clear hK K
          refine mix_two2 rfl rfl false false rfl rfl (fun K hK => ?_) (fun K hK => ?_)
          · go_simp
            have hBn := (Below.refl wa2.heap.size wa2).alloc (Nat.le_refl _) (.cells #[.slice al l.length cl, .slice af L.length cf] 25)
            have hE1 := hE1.call hBn
            have hF := hF.call hBn
            have hC := hC.call hBn
            have hX := hX.call hBn
            have hY := hY.call hBn
            have hE2 : Blk wa2.heap.size #[.slice al l.length cl, .slice af L.length cf] 25 (wa2.alloc (.cells #[.slice al l.length cl, .slice af L.length cf] 25)) := Blk.new wa2 _ _
            obtain ⟨b18, hb18⟩ : ∃ b, b = wa2.heap.size := ⟨_, rfl⟩
            have gb18 : w4.heap.size ≤ b18 := by rw [hb18]; exact hBa.size
            rw [← hb18] at hE2 ⊢
            have hBw := bnw hBw hBn
            have hBa := hBa.call hBn
            generalize wa2.alloc (.cells #[.slice al l.length cl, .slice af L.length cf] 25) = wa3 at *
            refine hK _ _ ⟨hX, hY⟩ ?_
            clear hK K hBn hb18
            refine mix_pur2 rfl (fun K hK => ?_)
            go_simp
            first | refine ⟨_, fun _ => rfl, hK _ ?_⟩ | refine hK _ ?_
            clear hK K
            refine mix_eff2 rfl false rfl (fun K hK => ?_)
            go_simp
            have hBn := (Below.refl wa3.heap.size wa3).alloc (Nat.le_refl _) (.cells #[.string (str t)] 9)
            have hE1 := hE1.call hBn
            have hE2 := hE2.call hBn
            have hF := hF.call hBn
            have hC := hC.call hBn
            have hX := hX.call hBn
            have hY := hY.call hBn
            have hE3 : Blk wa3.heap.size #[.string (str t)] 9 (wa3.alloc (.cells #[.string (str t)] 9)) := Blk.new wa3 _ _
            obtain ⟨b19, hb19⟩ : ∃ b, b = wa3.heap.size := ⟨_, rfl⟩
            have gb19 : w4.heap.size ≤ b19 := by rw [hb19]; exact hBa.size
            rw [← hb19] at hE3 ⊢
            have hBw := bnw hBw hBn
            have hBa := hBa.call hBn
            generalize wa3.alloc (.cells #[.string (str t)] 9) = wa4 at *
            refine hK _ _ ⟨hX, hY⟩ ?_
            clear hK K hBn hb19
            refine mix_pur2 rfl (fun K hK => ?_)
            go_simp
            first | refine ⟨_, fun _ => rfl, hK _ ?_⟩ | refine hK _ ?_
            clear hK K
            refine mix_done2 ?_
            go_wp2_with fail
            go_meet
            case rel => exact ⟨b17, b18, b19, af, cf, L, rfl, rfl, rfl, hE1, hE2, hE3, hC, hF, gb17, gb18, gb19, hBw⟩
          · go_simp
            have hBn := (Below.refl wa2.heap.size wa2).alloc (Nat.le_refl _) (.cells #[.string (str t)] 9)
            have hE1 := hE1.call hBn
            have hF := hF.call hBn
            have hC := hC.call hBn
            have hX := hX.call hBn
            have hY := hY.call hBn
            have hE3 : Blk wa2.heap.size #[.string (str t)] 9 (wa2.alloc (.cells #[.string (str t)] 9)) := Blk.new wa2 _ _
            obtain ⟨b19, hb19⟩ : ∃ b, b = wa2.heap.size := ⟨_, rfl⟩
            have gb19 : w4.heap.size ≤ b19 := by rw [hb19]; exact hBa.size
            rw [← hb19] at hE3 ⊢
            have hBw := bnw hBw hBn
            have hBa := hBa.call hBn
            generalize wa2.alloc (.cells #[.string (str t)] 9) = wa3 at *
            refine hK _ _ ⟨hX, hY⟩ ?_
            clear hK K hBn hb19
            refine mix_eff2 rfl false rfl (fun K hK => ?_)
            go_simp
            have hBn := (Below.refl wa3.heap.size wa3).alloc (Nat.le_refl _) (.cells #[.slice al l.length cl, .slice af L.length cf] 25)
            have hE1 := hE1.call hBn
            have hE3 := hE3.call hBn
            have hF := hF.call hBn
            have hC := hC.call hBn
            have hX := hX.call hBn
            have hY := hY.call hBn
            have hE2 : Blk wa3.heap.size #[.slice al l.length cl, .slice af L.length cf] 25 (wa3.alloc (.cells #[.slice al l.length cl, .slice af L.length cf] 25)) := Blk.new wa3 _ _
            obtain ⟨b18, hb18⟩ : ∃ b, b = wa3.heap.size := ⟨_, rfl⟩
            have gb18 : w4.heap.size ≤ b18 := by rw [hb18]; exact hBa.size
            rw [← hb18] at hE2 ⊢
            have hBw := bnw hBw hBn
            have hBa := hBa.call hBn
            generalize wa3.alloc (.cells #[.slice al l.length cl, .slice af L.length cf] 25) = wa4 at *
            refine hK _ _ ⟨hX, hY⟩ ?_
            clear hK K hBn hb18
            refine mix_pur2 rfl (fun K hK => ?_)
            go_simp
            first | refine ⟨_, fun _ => rfl, hK _ ?_⟩ | refine hK _ ?_
            clear hK K
            refine mix_pur2 rfl (fun K hK => ?_)
            go_simp
            first | refine ⟨_, fun _ => rfl, hK _ ?_⟩ | refine hK _ ?_
            clear hK K
            refine mix_done2 ?_
            go_wp2_with fail
            go_meet
            case rel => exact ⟨b17, b18, b19, af, cf, L, rfl, rfl, rfl, hE1, hE2, hE3, hC, hF, gb17, gb18, gb19, hBw⟩
        · go_simp
          have hBn := (Below.refl wa1.heap.size wa1).alloc (Nat.le_refl _) (.cells #[.string (str t)] 9)
          have hE1 := hE1.call hBn
          have hH := hH.call hBn
          have hC := hC.call hBn
          have hX := hX.call hBn
          have hY := hY.call hBn
          have hE3 : Blk wa1.heap.size #[.string (str t)] 9 (wa1.alloc (.cells #[.string (str t)] 9)) := Blk.new wa1 _ _
          obtain ⟨b19, hb19⟩ : ∃ b, b = wa1.heap.size := ⟨_, rfl⟩
          have gb19 : w4.heap.size ≤ b19 := by rw [hb19]; exact hBa.size
          rw [← hb19] at hE3 ⊢
          have hBw := bnw hBw hBn
          have hBa := hBa.call hBn
          generalize wa1.alloc (.cells #[.string (str t)] 9) = wa2 at *
          refine hK _ _ ⟨hX, hY⟩ ?_
          clear hK K hBn hb19
          refine mix_eff2 rfl false rfl (fun K hK => ?_)
          go_simp
          refine (furrowsOf_c hH (by omega) hmp am md.claims.length cm).mono ?_
          rintro e wa3 ⟨⟨L, vf, rfl, -, hF⟩, ⟨k6, hk6, hH6⟩, hG⟩
          obtain ⟨af, cf, rfl⟩ := own_slice hF
          have hF := own_base hF hBa.size
          have hX := hX.hand hG (by omega)
          have hY := hY.hand hG (by omega)
          have hE1 := hE1.hand hG (by omega)
          have hE3 := hE3.hand hG (by omega)
          have hC := Elems.only hC hG (by omega)
          have hBw := bhand hBw hG hhbw
          have hBa : Kp hb w4 wa3 := hBa.hand hG
          refine hK _ _ ⟨hX, hY⟩ ?_
          clear hK K hG hH hH6
          refine mix_pur2 rfl (fun K hK => ?_)
          go_simp
          first | refine ⟨_, fun _ => rfl, hK _ ?_⟩ | refine hK _ ?_
          clear hK K
          refine mix_eff2 rfl false rfl (fun K hK => ?_)
          go_simp
          have hBn := (Below.refl wa3.heap.size wa3).alloc (Nat.le_refl _) (.cells #[.slice al l.length cl, .slice af L.length cf] 25)
          have hE1 := hE1.call hBn
          have hE3 := hE3.call hBn
          have hF := hF.call hBn
          have hC := hC.call hBn
          have hX := hX.call hBn
          have hY := hY.call hBn
          have hE2 : Blk wa3.heap.size #[.slice al l.length cl, .slice af L.length cf] 25 (wa3.alloc (.cells #[.slice al l.length cl, .slice af L.length cf] 25)) := Blk.new wa3 _ _
          obtain ⟨b18, hb18⟩ : ∃ b, b = wa3.heap.size := ⟨_, rfl⟩
          have gb18 : w4.heap.size ≤ b18 := by rw [hb18]; exact hBa.size
          rw [← hb18] at hE2 ⊢
          have hBw := bnw hBw hBn
          have hBa := hBa.call hBn
          generalize wa3.alloc (.cells #[.slice al l.length cl, .slice af L.length cf] 25) = wa4 at *
          refine hK _ _ ⟨hX, hY⟩ ?_
          clear hK K hBn hb18
          refine mix_pur2 rfl (fun K hK => ?_)
          go_simp
          first | refine ⟨_, fun _ => rfl, hK _ ?_⟩ | refine hK _ ?_
          clear hK K
          refine mix_pur2 rfl (fun K hK => ?_)
          go_simp
          first | refine ⟨_, fun _ => rfl, hK _ ?_⟩ | refine hK _ ?_
          clear hK K
          refine mix_done2 ?_
          go_wp2_with fail
          go_meet
          case rel => exact ⟨b17, b18, b19, af, cf, L, rfl, rfl, rfl, hE1, hE2, hE3, hC, hF, gb17, gb18, gb19, hBw⟩
      · go_simp
        refine (furrowsOf_c hH (by omega) hmp am md.claims.length cm).mono ?_
        rintro e wa1 ⟨⟨L, vf, rfl, -, hF⟩, ⟨k6, hk6, hH6⟩, hG⟩
        obtain ⟨af, cf, rfl⟩ := own_slice hF
        have hF := own_base hF hBa.size
        have hX := hX.hand hG (by omega)
        have hY := hY.hand hG (by omega)
        have hC := Elems.only hC hG (by omega)
        have hBw := bhand hBw hG hhbw
        have hBa : Kp hb w4 wa1 := hBa.hand hG
        refine hK _ _ ⟨hX, hY⟩ ?_
        clear hK K hG hH hH6
        refine mix_three2 rfl rfl rfl false false false rfl rfl rfl (fun K hK => ?_) (fun K hK => ?_) (fun K hK => ?_)
        · go_simp
          have hBn := (Below.refl wa1.heap.size wa1).alloc (Nat.le_refl _) (.cells #[.int .i64 x.points, .int .i64 x.bend, .slice ax x.claims.length cx, .int .i64 md.points, .int .i64 md.bend, .slice am md.claims.length cm] 24)
          have hF := hF.call hBn
          have hC := hC.call hBn
          have hX := hX.call hBn
          have hY := hY.call hBn
          have hE1 : Blk wa1.heap.size #[.int .i64 x.points, .int .i64 x.bend, .slice ax x.claims.length cx, .int .i64 md.points, .int .i64 md.bend, .slice am md.claims.length cm] 24 (wa1.alloc (.cells #[.int .i64 x.points, .int .i64 x.bend, .slice ax x.claims.length cx, .int .i64 md.points, .int .i64 md.bend, .slice am md.claims.length cm] 24)) := Blk.new wa1 _ _
          obtain ⟨b17, hb17⟩ : ∃ b, b = wa1.heap.size := ⟨_, rfl⟩
          have gb17 : w4.heap.size ≤ b17 := by rw [hb17]; exact hBa.size
          rw [← hb17] at hE1 ⊢
          have hBw := bnw hBw hBn
          have hBa := hBa.call hBn
          generalize wa1.alloc (.cells #[.int .i64 x.points, .int .i64 x.bend, .slice ax x.claims.length cx, .int .i64 md.points, .int .i64 md.bend, .slice am md.claims.length cm] 24) = wa2 at *
          refine hK _ _ ⟨hX, hY⟩ ?_
          clear hK K hBn hb17
          refine mix_pur2 rfl (fun K hK => ?_)
          go_simp
          first | refine ⟨_, fun _ => rfl, hK _ ?_⟩ | refine hK _ ?_
          clear hK K
          refine mix_two2 rfl rfl false false rfl rfl (fun K hK => ?_) (fun K hK => ?_)
          · go_simp
            have hBn := (Below.refl wa2.heap.size wa2).alloc (Nat.le_refl _) (.cells #[.slice al l.length cl, .slice af L.length cf] 25)
            have hE1 := hE1.call hBn
            have hF := hF.call hBn
            have hC := hC.call hBn
            have hX := hX.call hBn
            have hY := hY.call hBn
            have hE2 : Blk wa2.heap.size #[.slice al l.length cl, .slice af L.length cf] 25 (wa2.alloc (.cells #[.slice al l.length cl, .slice af L.length cf] 25)) := Blk.new wa2 _ _
            obtain ⟨b18, hb18⟩ : ∃ b, b = wa2.heap.size := ⟨_, rfl⟩
            have gb18 : w4.heap.size ≤ b18 := by rw [hb18]; exact hBa.size
            rw [← hb18] at hE2 ⊢
            have hBw := bnw hBw hBn
            have hBa := hBa.call hBn
            generalize wa2.alloc (.cells #[.slice al l.length cl, .slice af L.length cf] 25) = wa3 at *
            refine hK _ _ ⟨hX, hY⟩ ?_
            clear hK K hBn hb18
            refine mix_pur2 rfl (fun K hK => ?_)
            go_simp
            first | refine ⟨_, fun _ => rfl, hK _ ?_⟩ | refine hK _ ?_
            clear hK K
            refine mix_eff2 rfl false rfl (fun K hK => ?_)
            go_simp
            have hBn := (Below.refl wa3.heap.size wa3).alloc (Nat.le_refl _) (.cells #[.string (str t)] 9)
            have hE1 := hE1.call hBn
            have hE2 := hE2.call hBn
            have hF := hF.call hBn
            have hC := hC.call hBn
            have hX := hX.call hBn
            have hY := hY.call hBn
            have hE3 : Blk wa3.heap.size #[.string (str t)] 9 (wa3.alloc (.cells #[.string (str t)] 9)) := Blk.new wa3 _ _
            obtain ⟨b19, hb19⟩ : ∃ b, b = wa3.heap.size := ⟨_, rfl⟩
            have gb19 : w4.heap.size ≤ b19 := by rw [hb19]; exact hBa.size
            rw [← hb19] at hE3 ⊢
            have hBw := bnw hBw hBn
            have hBa := hBa.call hBn
            generalize wa3.alloc (.cells #[.string (str t)] 9) = wa4 at *
            refine hK _ _ ⟨hX, hY⟩ ?_
            clear hK K hBn hb19
            refine mix_pur2 rfl (fun K hK => ?_)
            go_simp
            first | refine ⟨_, fun _ => rfl, hK _ ?_⟩ | refine hK _ ?_
            clear hK K
            refine mix_done2 ?_
            go_wp2_with fail
            go_meet
            case rel => exact ⟨b17, b18, b19, af, cf, L, rfl, rfl, rfl, hE1, hE2, hE3, hC, hF, gb17, gb18, gb19, hBw⟩
          · go_simp
            have hBn := (Below.refl wa2.heap.size wa2).alloc (Nat.le_refl _) (.cells #[.string (str t)] 9)
            have hE1 := hE1.call hBn
            have hF := hF.call hBn
            have hC := hC.call hBn
            have hX := hX.call hBn
            have hY := hY.call hBn
            have hE3 : Blk wa2.heap.size #[.string (str t)] 9 (wa2.alloc (.cells #[.string (str t)] 9)) := Blk.new wa2 _ _
            obtain ⟨b19, hb19⟩ : ∃ b, b = wa2.heap.size := ⟨_, rfl⟩
            have gb19 : w4.heap.size ≤ b19 := by rw [hb19]; exact hBa.size
            rw [← hb19] at hE3 ⊢
            have hBw := bnw hBw hBn
            have hBa := hBa.call hBn
            generalize wa2.alloc (.cells #[.string (str t)] 9) = wa3 at *
            refine hK _ _ ⟨hX, hY⟩ ?_
            clear hK K hBn hb19
            refine mix_eff2 rfl false rfl (fun K hK => ?_)
            go_simp
            have hBn := (Below.refl wa3.heap.size wa3).alloc (Nat.le_refl _) (.cells #[.slice al l.length cl, .slice af L.length cf] 25)
            have hE1 := hE1.call hBn
            have hE3 := hE3.call hBn
            have hF := hF.call hBn
            have hC := hC.call hBn
            have hX := hX.call hBn
            have hY := hY.call hBn
            have hE2 : Blk wa3.heap.size #[.slice al l.length cl, .slice af L.length cf] 25 (wa3.alloc (.cells #[.slice al l.length cl, .slice af L.length cf] 25)) := Blk.new wa3 _ _
            obtain ⟨b18, hb18⟩ : ∃ b, b = wa3.heap.size := ⟨_, rfl⟩
            have gb18 : w4.heap.size ≤ b18 := by rw [hb18]; exact hBa.size
            rw [← hb18] at hE2 ⊢
            have hBw := bnw hBw hBn
            have hBa := hBa.call hBn
            generalize wa3.alloc (.cells #[.slice al l.length cl, .slice af L.length cf] 25) = wa4 at *
            refine hK _ _ ⟨hX, hY⟩ ?_
            clear hK K hBn hb18
            refine mix_pur2 rfl (fun K hK => ?_)
            go_simp
            first | refine ⟨_, fun _ => rfl, hK _ ?_⟩ | refine hK _ ?_
            clear hK K
            refine mix_pur2 rfl (fun K hK => ?_)
            go_simp
            first | refine ⟨_, fun _ => rfl, hK _ ?_⟩ | refine hK _ ?_
            clear hK K
            refine mix_done2 ?_
            go_wp2_with fail
            go_meet
            case rel => exact ⟨b17, b18, b19, af, cf, L, rfl, rfl, rfl, hE1, hE2, hE3, hC, hF, gb17, gb18, gb19, hBw⟩
        · go_simp
          have hBn := (Below.refl wa1.heap.size wa1).alloc (Nat.le_refl _) (.cells #[.slice al l.length cl, .slice af L.length cf] 25)
          have hF := hF.call hBn
          have hC := hC.call hBn
          have hX := hX.call hBn
          have hY := hY.call hBn
          have hE2 : Blk wa1.heap.size #[.slice al l.length cl, .slice af L.length cf] 25 (wa1.alloc (.cells #[.slice al l.length cl, .slice af L.length cf] 25)) := Blk.new wa1 _ _
          obtain ⟨b18, hb18⟩ : ∃ b, b = wa1.heap.size := ⟨_, rfl⟩
          have gb18 : w4.heap.size ≤ b18 := by rw [hb18]; exact hBa.size
          rw [← hb18] at hE2 ⊢
          have hBw := bnw hBw hBn
          have hBa := hBa.call hBn
          generalize wa1.alloc (.cells #[.slice al l.length cl, .slice af L.length cf] 25) = wa2 at *
          refine hK _ _ ⟨hX, hY⟩ ?_
          clear hK K hBn hb18
          refine mix_two2 rfl rfl false false rfl rfl (fun K hK => ?_) (fun K hK => ?_)
          · go_simp
            have hBn := (Below.refl wa2.heap.size wa2).alloc (Nat.le_refl _) (.cells #[.int .i64 x.points, .int .i64 x.bend, .slice ax x.claims.length cx, .int .i64 md.points, .int .i64 md.bend, .slice am md.claims.length cm] 24)
            have hE2 := hE2.call hBn
            have hF := hF.call hBn
            have hC := hC.call hBn
            have hX := hX.call hBn
            have hY := hY.call hBn
            have hE1 : Blk wa2.heap.size #[.int .i64 x.points, .int .i64 x.bend, .slice ax x.claims.length cx, .int .i64 md.points, .int .i64 md.bend, .slice am md.claims.length cm] 24 (wa2.alloc (.cells #[.int .i64 x.points, .int .i64 x.bend, .slice ax x.claims.length cx, .int .i64 md.points, .int .i64 md.bend, .slice am md.claims.length cm] 24)) := Blk.new wa2 _ _
            obtain ⟨b17, hb17⟩ : ∃ b, b = wa2.heap.size := ⟨_, rfl⟩
            have gb17 : w4.heap.size ≤ b17 := by rw [hb17]; exact hBa.size
            rw [← hb17] at hE1 ⊢
            have hBw := bnw hBw hBn
            have hBa := hBa.call hBn
            generalize wa2.alloc (.cells #[.int .i64 x.points, .int .i64 x.bend, .slice ax x.claims.length cx, .int .i64 md.points, .int .i64 md.bend, .slice am md.claims.length cm] 24) = wa3 at *
            refine hK _ _ ⟨hX, hY⟩ ?_
            clear hK K hBn hb17
            refine mix_pur2 rfl (fun K hK => ?_)
            go_simp
            first | refine ⟨_, fun _ => rfl, hK _ ?_⟩ | refine hK _ ?_
            clear hK K
            refine mix_pur2 rfl (fun K hK => ?_)
            go_simp
            first | refine ⟨_, fun _ => rfl, hK _ ?_⟩ | refine hK _ ?_
            clear hK K
            refine mix_eff2 rfl false rfl (fun K hK => ?_)
            go_simp
            have hBn := (Below.refl wa3.heap.size wa3).alloc (Nat.le_refl _) (.cells #[.string (str t)] 9)
            have hE1 := hE1.call hBn
            have hE2 := hE2.call hBn
            have hF := hF.call hBn
            have hC := hC.call hBn
            have hX := hX.call hBn
            have hY := hY.call hBn
            have hE3 : Blk wa3.heap.size #[.string (str t)] 9 (wa3.alloc (.cells #[.string (str t)] 9)) := Blk.new wa3 _ _
            obtain ⟨b19, hb19⟩ : ∃ b, b = wa3.heap.size := ⟨_, rfl⟩
            have gb19 : w4.heap.size ≤ b19 := by rw [hb19]; exact hBa.size
            rw [← hb19] at hE3 ⊢
            have hBw := bnw hBw hBn
            have hBa := hBa.call hBn
            generalize wa3.alloc (.cells #[.string (str t)] 9) = wa4 at *
            refine hK _ _ ⟨hX, hY⟩ ?_
            clear hK K hBn hb19
            refine mix_pur2 rfl (fun K hK => ?_)
            go_simp
            first | refine ⟨_, fun _ => rfl, hK _ ?_⟩ | refine hK _ ?_
            clear hK K
            refine mix_done2 ?_
            go_wp2_with fail
            go_meet
            case rel => exact ⟨b17, b18, b19, af, cf, L, rfl, rfl, rfl, hE1, hE2, hE3, hC, hF, gb17, gb18, gb19, hBw⟩
          · go_simp
            have hBn := (Below.refl wa2.heap.size wa2).alloc (Nat.le_refl _) (.cells #[.string (str t)] 9)
            have hE2 := hE2.call hBn
            have hF := hF.call hBn
            have hC := hC.call hBn
            have hX := hX.call hBn
            have hY := hY.call hBn
            have hE3 : Blk wa2.heap.size #[.string (str t)] 9 (wa2.alloc (.cells #[.string (str t)] 9)) := Blk.new wa2 _ _
            obtain ⟨b19, hb19⟩ : ∃ b, b = wa2.heap.size := ⟨_, rfl⟩
            have gb19 : w4.heap.size ≤ b19 := by rw [hb19]; exact hBa.size
            rw [← hb19] at hE3 ⊢
            have hBw := bnw hBw hBn
            have hBa := hBa.call hBn
            generalize wa2.alloc (.cells #[.string (str t)] 9) = wa3 at *
            refine hK _ _ ⟨hX, hY⟩ ?_
            clear hK K hBn hb19
            refine mix_eff2 rfl false rfl (fun K hK => ?_)
            go_simp
            have hBn := (Below.refl wa3.heap.size wa3).alloc (Nat.le_refl _) (.cells #[.int .i64 x.points, .int .i64 x.bend, .slice ax x.claims.length cx, .int .i64 md.points, .int .i64 md.bend, .slice am md.claims.length cm] 24)
            have hE2 := hE2.call hBn
            have hE3 := hE3.call hBn
            have hF := hF.call hBn
            have hC := hC.call hBn
            have hX := hX.call hBn
            have hY := hY.call hBn
            have hE1 : Blk wa3.heap.size #[.int .i64 x.points, .int .i64 x.bend, .slice ax x.claims.length cx, .int .i64 md.points, .int .i64 md.bend, .slice am md.claims.length cm] 24 (wa3.alloc (.cells #[.int .i64 x.points, .int .i64 x.bend, .slice ax x.claims.length cx, .int .i64 md.points, .int .i64 md.bend, .slice am md.claims.length cm] 24)) := Blk.new wa3 _ _
            obtain ⟨b17, hb17⟩ : ∃ b, b = wa3.heap.size := ⟨_, rfl⟩
            have gb17 : w4.heap.size ≤ b17 := by rw [hb17]; exact hBa.size
            rw [← hb17] at hE1 ⊢
            have hBw := bnw hBw hBn
            have hBa := hBa.call hBn
            generalize wa3.alloc (.cells #[.int .i64 x.points, .int .i64 x.bend, .slice ax x.claims.length cx, .int .i64 md.points, .int .i64 md.bend, .slice am md.claims.length cm] 24) = wa4 at *
            refine hK _ _ ⟨hX, hY⟩ ?_
            clear hK K hBn hb17
            refine mix_pur2 rfl (fun K hK => ?_)
            go_simp
            first | refine ⟨_, fun _ => rfl, hK _ ?_⟩ | refine hK _ ?_
            clear hK K
            refine mix_pur2 rfl (fun K hK => ?_)
            go_simp
            first | refine ⟨_, fun _ => rfl, hK _ ?_⟩ | refine hK _ ?_
            clear hK K
            refine mix_pur2 rfl (fun K hK => ?_)
            go_simp
            first | refine ⟨_, fun _ => rfl, hK _ ?_⟩ | refine hK _ ?_
            clear hK K
            refine mix_done2 ?_
            go_wp2_with fail
            go_meet
            case rel => exact ⟨b17, b18, b19, af, cf, L, rfl, rfl, rfl, hE1, hE2, hE3, hC, hF, gb17, gb18, gb19, hBw⟩
        · go_simp
          have hBn := (Below.refl wa1.heap.size wa1).alloc (Nat.le_refl _) (.cells #[.string (str t)] 9)
          have hF := hF.call hBn
          have hC := hC.call hBn
          have hX := hX.call hBn
          have hY := hY.call hBn
          have hE3 : Blk wa1.heap.size #[.string (str t)] 9 (wa1.alloc (.cells #[.string (str t)] 9)) := Blk.new wa1 _ _
          obtain ⟨b19, hb19⟩ : ∃ b, b = wa1.heap.size := ⟨_, rfl⟩
          have gb19 : w4.heap.size ≤ b19 := by rw [hb19]; exact hBa.size
          rw [← hb19] at hE3 ⊢
          have hBw := bnw hBw hBn
          have hBa := hBa.call hBn
          generalize wa1.alloc (.cells #[.string (str t)] 9) = wa2 at *
          refine hK _ _ ⟨hX, hY⟩ ?_
          clear hK K hBn hb19
          refine mix_two2 rfl rfl false false rfl rfl (fun K hK => ?_) (fun K hK => ?_)
          · go_simp
            have hBn := (Below.refl wa2.heap.size wa2).alloc (Nat.le_refl _) (.cells #[.int .i64 x.points, .int .i64 x.bend, .slice ax x.claims.length cx, .int .i64 md.points, .int .i64 md.bend, .slice am md.claims.length cm] 24)
            have hE3 := hE3.call hBn
            have hF := hF.call hBn
            have hC := hC.call hBn
            have hX := hX.call hBn
            have hY := hY.call hBn
            have hE1 : Blk wa2.heap.size #[.int .i64 x.points, .int .i64 x.bend, .slice ax x.claims.length cx, .int .i64 md.points, .int .i64 md.bend, .slice am md.claims.length cm] 24 (wa2.alloc (.cells #[.int .i64 x.points, .int .i64 x.bend, .slice ax x.claims.length cx, .int .i64 md.points, .int .i64 md.bend, .slice am md.claims.length cm] 24)) := Blk.new wa2 _ _
            obtain ⟨b17, hb17⟩ : ∃ b, b = wa2.heap.size := ⟨_, rfl⟩
            have gb17 : w4.heap.size ≤ b17 := by rw [hb17]; exact hBa.size
            rw [← hb17] at hE1 ⊢
            have hBw := bnw hBw hBn
            have hBa := hBa.call hBn
            generalize wa2.alloc (.cells #[.int .i64 x.points, .int .i64 x.bend, .slice ax x.claims.length cx, .int .i64 md.points, .int .i64 md.bend, .slice am md.claims.length cm] 24) = wa3 at *
            refine hK _ _ ⟨hX, hY⟩ ?_
            clear hK K hBn hb17
            refine mix_pur2 rfl (fun K hK => ?_)
            go_simp
            first | refine ⟨_, fun _ => rfl, hK _ ?_⟩ | refine hK _ ?_
            clear hK K
            refine mix_eff2 rfl false rfl (fun K hK => ?_)
            go_simp
            have hBn := (Below.refl wa3.heap.size wa3).alloc (Nat.le_refl _) (.cells #[.slice al l.length cl, .slice af L.length cf] 25)
            have hE1 := hE1.call hBn
            have hE3 := hE3.call hBn
            have hF := hF.call hBn
            have hC := hC.call hBn
            have hX := hX.call hBn
            have hY := hY.call hBn
            have hE2 : Blk wa3.heap.size #[.slice al l.length cl, .slice af L.length cf] 25 (wa3.alloc (.cells #[.slice al l.length cl, .slice af L.length cf] 25)) := Blk.new wa3 _ _
            obtain ⟨b18, hb18⟩ : ∃ b, b = wa3.heap.size := ⟨_, rfl⟩
            have gb18 : w4.heap.size ≤ b18 := by rw [hb18]; exact hBa.size
            rw [← hb18] at hE2 ⊢
            have hBw := bnw hBw hBn
            have hBa := hBa.call hBn
            generalize wa3.alloc (.cells #[.slice al l.length cl, .slice af L.length cf] 25) = wa4 at *
            refine hK _ _ ⟨hX, hY⟩ ?_
            clear hK K hBn hb18
            refine mix_pur2 rfl (fun K hK => ?_)
            go_simp
            first | refine ⟨_, fun _ => rfl, hK _ ?_⟩ | refine hK _ ?_
            clear hK K
            refine mix_pur2 rfl (fun K hK => ?_)
            go_simp
            first | refine ⟨_, fun _ => rfl, hK _ ?_⟩ | refine hK _ ?_
            clear hK K
            refine mix_done2 ?_
            go_wp2_with fail
            go_meet
            case rel => exact ⟨b17, b18, b19, af, cf, L, rfl, rfl, rfl, hE1, hE2, hE3, hC, hF, gb17, gb18, gb19, hBw⟩
          · go_simp
            have hBn := (Below.refl wa2.heap.size wa2).alloc (Nat.le_refl _) (.cells #[.slice al l.length cl, .slice af L.length cf] 25)
            have hE3 := hE3.call hBn
            have hF := hF.call hBn
            have hC := hC.call hBn
            have hX := hX.call hBn
            have hY := hY.call hBn
            have hE2 : Blk wa2.heap.size #[.slice al l.length cl, .slice af L.length cf] 25 (wa2.alloc (.cells #[.slice al l.length cl, .slice af L.length cf] 25)) := Blk.new wa2 _ _
            obtain ⟨b18, hb18⟩ : ∃ b, b = wa2.heap.size := ⟨_, rfl⟩
            have gb18 : w4.heap.size ≤ b18 := by rw [hb18]; exact hBa.size
            rw [← hb18] at hE2 ⊢
            have hBw := bnw hBw hBn
            have hBa := hBa.call hBn
            generalize wa2.alloc (.cells #[.slice al l.length cl, .slice af L.length cf] 25) = wa3 at *
            refine hK _ _ ⟨hX, hY⟩ ?_
            clear hK K hBn hb18
            refine mix_eff2 rfl false rfl (fun K hK => ?_)
            go_simp
            have hBn := (Below.refl wa3.heap.size wa3).alloc (Nat.le_refl _) (.cells #[.int .i64 x.points, .int .i64 x.bend, .slice ax x.claims.length cx, .int .i64 md.points, .int .i64 md.bend, .slice am md.claims.length cm] 24)
            have hE2 := hE2.call hBn
            have hE3 := hE3.call hBn
            have hF := hF.call hBn
            have hC := hC.call hBn
            have hX := hX.call hBn
            have hY := hY.call hBn
            have hE1 : Blk wa3.heap.size #[.int .i64 x.points, .int .i64 x.bend, .slice ax x.claims.length cx, .int .i64 md.points, .int .i64 md.bend, .slice am md.claims.length cm] 24 (wa3.alloc (.cells #[.int .i64 x.points, .int .i64 x.bend, .slice ax x.claims.length cx, .int .i64 md.points, .int .i64 md.bend, .slice am md.claims.length cm] 24)) := Blk.new wa3 _ _
            obtain ⟨b17, hb17⟩ : ∃ b, b = wa3.heap.size := ⟨_, rfl⟩
            have gb17 : w4.heap.size ≤ b17 := by rw [hb17]; exact hBa.size
            rw [← hb17] at hE1 ⊢
            have hBw := bnw hBw hBn
            have hBa := hBa.call hBn
            generalize wa3.alloc (.cells #[.int .i64 x.points, .int .i64 x.bend, .slice ax x.claims.length cx, .int .i64 md.points, .int .i64 md.bend, .slice am md.claims.length cm] 24) = wa4 at *
            refine hK _ _ ⟨hX, hY⟩ ?_
            clear hK K hBn hb17
            refine mix_pur2 rfl (fun K hK => ?_)
            go_simp
            first | refine ⟨_, fun _ => rfl, hK _ ?_⟩ | refine hK _ ?_
            clear hK K
            refine mix_pur2 rfl (fun K hK => ?_)
            go_simp
            first | refine ⟨_, fun _ => rfl, hK _ ?_⟩ | refine hK _ ?_
            clear hK K
            refine mix_pur2 rfl (fun K hK => ?_)
            go_simp
            first | refine ⟨_, fun _ => rfl, hK _ ?_⟩ | refine hK _ ?_
            clear hK K
            refine mix_done2 ?_
            go_wp2_with fail
            go_meet
            case rel => exact ⟨b17, b18, b19, af, cf, L, rfl, rfl, rfl, hE1, hE2, hE3, hC, hF, gb17, gb18, gb19, hBw⟩
      · go_simp
        have hBn := (Below.refl wd.heap.size wd).alloc (Nat.le_refl _) (.cells #[.string (str t)] 9)
        have hH := hH.call hBn
        have hC := hC.call hBn
        have hX := hX.call hBn
        have hY := hY.call hBn
        have hE3 : Blk wd.heap.size #[.string (str t)] 9 (wd.alloc (.cells #[.string (str t)] 9)) := Blk.new wd _ _
        obtain ⟨b19, hb19⟩ : ∃ b, b = wd.heap.size := ⟨_, rfl⟩
        have gb19 : w4.heap.size ≤ b19 := by rw [hb19]; exact hBa.size
        rw [← hb19] at hE3 ⊢
        have hBw := bnw hBw hBn
        have hBa := hBa.call hBn
        generalize wd.alloc (.cells #[.string (str t)] 9) = wa1 at *
        refine hK _ _ ⟨hX, hY⟩ ?_
        clear hK K hBn hb19
        refine mix_two2 rfl rfl false false rfl rfl (fun K hK => ?_) (fun K hK => ?_)
        · go_simp
          have hBn := (Below.refl wa1.heap.size wa1).alloc (Nat.le_refl _) (.cells #[.int .i64 x.points, .int .i64 x.bend, .slice ax x.claims.length cx, .int .i64 md.points, .int .i64 md.bend, .slice am md.claims.length cm] 24)
          have hE3 := hE3.call hBn
          have hH := hH.call hBn
          have hC := hC.call hBn
          have hX := hX.call hBn
          have hY := hY.call hBn
          have hE1 : Blk wa1.heap.size #[.int .i64 x.points, .int .i64 x.bend, .slice ax x.claims.length cx, .int .i64 md.points, .int .i64 md.bend, .slice am md.claims.length cm] 24 (wa1.alloc (.cells #[.int .i64 x.points, .int .i64 x.bend, .slice ax x.claims.length cx, .int .i64 md.points, .int .i64 md.bend, .slice am md.claims.length cm] 24)) := Blk.new wa1 _ _
          obtain ⟨b17, hb17⟩ : ∃ b, b = wa1.heap.size := ⟨_, rfl⟩
          have gb17 : w4.heap.size ≤ b17 := by rw [hb17]; exact hBa.size
          rw [← hb17] at hE1 ⊢
          have hBw := bnw hBw hBn
          have hBa := hBa.call hBn
          generalize wa1.alloc (.cells #[.int .i64 x.points, .int .i64 x.bend, .slice ax x.claims.length cx, .int .i64 md.points, .int .i64 md.bend, .slice am md.claims.length cm] 24) = wa2 at *
          refine hK _ _ ⟨hX, hY⟩ ?_
          clear hK K hBn hb17
          refine mix_eff2 rfl false rfl (fun K hK => ?_)
          go_simp
          refine (furrowsOf_c hH (by omega) hmp am md.claims.length cm).mono ?_
          rintro e wa3 ⟨⟨L, vf, rfl, -, hF⟩, ⟨k6, hk6, hH6⟩, hG⟩
          obtain ⟨af, cf, rfl⟩ := own_slice hF
          have hF := own_base hF hBa.size
          have hX := hX.hand hG (by omega)
          have hY := hY.hand hG (by omega)
          have hE1 := hE1.hand hG (by omega)
          have hE3 := hE3.hand hG (by omega)
          have hC := Elems.only hC hG (by omega)
          have hBw := bhand hBw hG hhbw
          have hBa : Kp hb w4 wa3 := hBa.hand hG
          refine hK _ _ ⟨hX, hY⟩ ?_
          clear hK K hG hH hH6
          refine mix_pur2 rfl (fun K hK => ?_)
          go_simp
          first | refine ⟨_, fun _ => rfl, hK _ ?_⟩ | refine hK _ ?_
          clear hK K
          refine mix_eff2 rfl false rfl (fun K hK => ?_)
          go_simp
          have hBn := (Below.refl wa3.heap.size wa3).alloc (Nat.le_refl _) (.cells #[.slice al l.length cl, .slice af L.length cf] 25)
          have hE1 := hE1.call hBn
          have hE3 := hE3.call hBn
          have hF := hF.call hBn
          have hC := hC.call hBn
          have hX := hX.call hBn
          have hY := hY.call hBn
          have hE2 : Blk wa3.heap.size #[.slice al l.length cl, .slice af L.length cf] 25 (wa3.alloc (.cells #[.slice al l.length cl, .slice af L.length cf] 25)) := Blk.new wa3 _ _
          obtain ⟨b18, hb18⟩ : ∃ b, b = wa3.heap.size := ⟨_, rfl⟩
          have gb18 : w4.heap.size ≤ b18 := by rw [hb18]; exact hBa.size
          rw [← hb18] at hE2 ⊢
          have hBw := bnw hBw hBn
          have hBa := hBa.call hBn
          generalize wa3.alloc (.cells #[.slice al l.length cl, .slice af L.length cf] 25) = wa4 at *
          refine hK _ _ ⟨hX, hY⟩ ?_
          clear hK K hBn hb18
          refine mix_pur2 rfl (fun K hK => ?_)
          go_simp
          first | refine ⟨_, fun _ => rfl, hK _ ?_⟩ | refine hK _ ?_
          clear hK K
          refine mix_pur2 rfl (fun K hK => ?_)
          go_simp
          first | refine ⟨_, fun _ => rfl, hK _ ?_⟩ | refine hK _ ?_
          clear hK K
          refine mix_done2 ?_
          go_wp2_with fail
          go_meet
          case rel => exact ⟨b17, b18, b19, af, cf, L, rfl, rfl, rfl, hE1, hE2, hE3, hC, hF, gb17, gb18, gb19, hBw⟩
        · go_simp
          refine (furrowsOf_c hH (by omega) hmp am md.claims.length cm).mono ?_
          rintro e wa2 ⟨⟨L, vf, rfl, -, hF⟩, ⟨k6, hk6, hH6⟩, hG⟩
          obtain ⟨af, cf, rfl⟩ := own_slice hF
          have hF := own_base hF hBa.size
          have hX := hX.hand hG (by omega)
          have hY := hY.hand hG (by omega)
          have hE3 := hE3.hand hG (by omega)
          have hC := Elems.only hC hG (by omega)
          have hBw := bhand hBw hG hhbw
          have hBa : Kp hb w4 wa2 := hBa.hand hG
          refine hK _ _ ⟨hX, hY⟩ ?_
          clear hK K hG hH hH6
          refine mix_two2 rfl rfl false false rfl rfl (fun K hK => ?_) (fun K hK => ?_)
          · go_simp
            have hBn := (Below.refl wa2.heap.size wa2).alloc (Nat.le_refl _) (.cells #[.int .i64 x.points, .int .i64 x.bend, .slice ax x.claims.length cx, .int .i64 md.points, .int .i64 md.bend, .slice am md.claims.length cm] 24)
            have hE3 := hE3.call hBn
            have hF := hF.call hBn
            have hC := hC.call hBn
            have hX := hX.call hBn
            have hY := hY.call hBn
            have hE1 : Blk wa2.heap.size #[.int .i64 x.points, .int .i64 x.bend, .slice ax x.claims.length cx, .int .i64 md.points, .int .i64 md.bend, .slice am md.claims.length cm] 24 (wa2.alloc (.cells #[.int .i64 x.points, .int .i64 x.bend, .slice ax x.claims.length cx, .int .i64 md.points, .int .i64 md.bend, .slice am md.claims.length cm] 24)) := Blk.new wa2 _ _
            obtain ⟨b17, hb17⟩ : ∃ b, b = wa2.heap.size := ⟨_, rfl⟩
            have gb17 : w4.heap.size ≤ b17 := by rw [hb17]; exact hBa.size
            rw [← hb17] at hE1 ⊢
            have hBw := bnw hBw hBn
            have hBa := hBa.call hBn
            generalize wa2.alloc (.cells #[.int .i64 x.points, .int .i64 x.bend, .slice ax x.claims.length cx, .int .i64 md.points, .int .i64 md.bend, .slice am md.claims.length cm] 24) = wa3 at *
            refine hK _ _ ⟨hX, hY⟩ ?_
            clear hK K hBn hb17
            refine mix_pur2 rfl (fun K hK => ?_)
            go_simp
            first | refine ⟨_, fun _ => rfl, hK _ ?_⟩ | refine hK _ ?_
            clear hK K
            refine mix_eff2 rfl false rfl (fun K hK => ?_)
            go_simp
            have hBn := (Below.refl wa3.heap.size wa3).alloc (Nat.le_refl _) (.cells #[.slice al l.length cl, .slice af L.length cf] 25)
            have hE1 := hE1.call hBn
            have hE3 := hE3.call hBn
            have hF := hF.call hBn
            have hC := hC.call hBn
            have hX := hX.call hBn
            have hY := hY.call hBn
            have hE2 : Blk wa3.heap.size #[.slice al l.length cl, .slice af L.length cf] 25 (wa3.alloc (.cells #[.slice al l.length cl, .slice af L.length cf] 25)) := Blk.new wa3 _ _
            obtain ⟨b18, hb18⟩ : ∃ b, b = wa3.heap.size := ⟨_, rfl⟩
            have gb18 : w4.heap.size ≤ b18 := by rw [hb18]; exact hBa.size
            rw [← hb18] at hE2 ⊢
            have hBw := bnw hBw hBn
            have hBa := hBa.call hBn
            generalize wa3.alloc (.cells #[.slice al l.length cl, .slice af L.length cf] 25) = wa4 at *
            refine hK _ _ ⟨hX, hY⟩ ?_
            clear hK K hBn hb18
            refine mix_pur2 rfl (fun K hK => ?_)
            go_simp
            first | refine ⟨_, fun _ => rfl, hK _ ?_⟩ | refine hK _ ?_
            clear hK K
            refine mix_pur2 rfl (fun K hK => ?_)
            go_simp
            first | refine ⟨_, fun _ => rfl, hK _ ?_⟩ | refine hK _ ?_
            clear hK K
            refine mix_done2 ?_
            go_wp2_with fail
            go_meet
            case rel => exact ⟨b17, b18, b19, af, cf, L, rfl, rfl, rfl, hE1, hE2, hE3, hC, hF, gb17, gb18, gb19, hBw⟩
          · go_simp
            have hBn := (Below.refl wa2.heap.size wa2).alloc (Nat.le_refl _) (.cells #[.slice al l.length cl, .slice af L.length cf] 25)
            have hE3 := hE3.call hBn
            have hF := hF.call hBn
            have hC := hC.call hBn
            have hX := hX.call hBn
            have hY := hY.call hBn
            have hE2 : Blk wa2.heap.size #[.slice al l.length cl, .slice af L.length cf] 25 (wa2.alloc (.cells #[.slice al l.length cl, .slice af L.length cf] 25)) := Blk.new wa2 _ _
            obtain ⟨b18, hb18⟩ : ∃ b, b = wa2.heap.size := ⟨_, rfl⟩
            have gb18 : w4.heap.size ≤ b18 := by rw [hb18]; exact hBa.size
            rw [← hb18] at hE2 ⊢
            have hBw := bnw hBw hBn
            have hBa := hBa.call hBn
            generalize wa2.alloc (.cells #[.slice al l.length cl, .slice af L.length cf] 25) = wa3 at *
            refine hK _ _ ⟨hX, hY⟩ ?_
            clear hK K hBn hb18
            refine mix_eff2 rfl false rfl (fun K hK => ?_)
            go_simp
            have hBn := (Below.refl wa3.heap.size wa3).alloc (Nat.le_refl _) (.cells #[.int .i64 x.points, .int .i64 x.bend, .slice ax x.claims.length cx, .int .i64 md.points, .int .i64 md.bend, .slice am md.claims.length cm] 24)
            have hE2 := hE2.call hBn
            have hE3 := hE3.call hBn
            have hF := hF.call hBn
            have hC := hC.call hBn
            have hX := hX.call hBn
            have hY := hY.call hBn
            have hE1 : Blk wa3.heap.size #[.int .i64 x.points, .int .i64 x.bend, .slice ax x.claims.length cx, .int .i64 md.points, .int .i64 md.bend, .slice am md.claims.length cm] 24 (wa3.alloc (.cells #[.int .i64 x.points, .int .i64 x.bend, .slice ax x.claims.length cx, .int .i64 md.points, .int .i64 md.bend, .slice am md.claims.length cm] 24)) := Blk.new wa3 _ _
            obtain ⟨b17, hb17⟩ : ∃ b, b = wa3.heap.size := ⟨_, rfl⟩
            have gb17 : w4.heap.size ≤ b17 := by rw [hb17]; exact hBa.size
            rw [← hb17] at hE1 ⊢
            have hBw := bnw hBw hBn
            have hBa := hBa.call hBn
            generalize wa3.alloc (.cells #[.int .i64 x.points, .int .i64 x.bend, .slice ax x.claims.length cx, .int .i64 md.points, .int .i64 md.bend, .slice am md.claims.length cm] 24) = wa4 at *
            refine hK _ _ ⟨hX, hY⟩ ?_
            clear hK K hBn hb17
            refine mix_pur2 rfl (fun K hK => ?_)
            go_simp
            first | refine ⟨_, fun _ => rfl, hK _ ?_⟩ | refine hK _ ?_
            clear hK K
            refine mix_pur2 rfl (fun K hK => ?_)
            go_simp
            first | refine ⟨_, fun _ => rfl, hK _ ?_⟩ | refine hK _ ?_
            clear hK K
            refine mix_pur2 rfl (fun K hK => ?_)
            go_simp
            first | refine ⟨_, fun _ => rfl, hK _ ?_⟩ | refine hK _ ?_
            clear hK K
            refine mix_done2 ?_
            go_wp2_with fail
            go_meet
            case rel => exact ⟨b17, b18, b19, af, cf, L, rfl, rfl, rfl, hE1, hE2, hE3, hC, hF, gb17, gb18, gb19, hBw⟩
    case rest =>
    obtain ⟨b17, b18, b19, af, cf, L, rfl, rfl, rfl, hE1, hE2, hE3, hC5, hF5, gb17, gb18, gb19, hB5⟩ := hcut
    rename World => w5
    have hne17 : b17 ≠ b19 := fun e => by
      have h1 := hE1
      rw [e] at h1
      have h2 : some (Obj.cells #[.string (str t)] 9 (0, 0)) = some (Obj.cells #[.int .i64 x.points, .int .i64 x.bend, .slice ax x.claims.length cx, .int .i64 md.points, .int .i64 md.bend, .slice am md.claims.length cm] 24 (0, 0)) := hE3.symm.trans h1
      injection h2 with h2
      injection h2 with _ h2
      exact absurd h2 (by decide)
    have hne18 : b18 ≠ b19 := fun e => by
      have h1 := hE2
      rw [e] at h1
      have h2 : some (Obj.cells #[.string (str t)] 9 (0, 0)) = some (Obj.cells #[.slice al l.length cl, .slice af L.length cf] 25 (0, 0)) := hE3.symm.trans h1
      injection h2 with h2
      injection h2 with _ h2
      exact absurd h2 (by decide)
    have hlt17 := hE1.lt
    have hlt18 := hE2.lt
    have hw4w : w.heap.size ≤ w4.heap.size := by have := hB4.size; omega
    have hO5 : Own w.heap.size w5 9 1 (.slice (some ⟨b19, 0, none⟩) 1 1) 1 (SL [t]) := ⟨rfl, .inr ⟨b19, 1, #[.string (str t)], rfl, by omega, hE3, Nat.le_refl _, by unfold maxLen; omega, rfl, rfl⟩⟩
    have hK5 : KP w w5 b19 (.slice (some ⟨b19, 0, none⟩) 1 1) w5 := ⟨fun _ _ _ => rfl, Nat.le_refl _, hB5, fun g hg => .inl (Option.some.inj hg).symm⟩
    obtain ⟨tx, htx⟩ : ∃ z, z = txE x l := ⟨_, rfl⟩
    obtain ⟨tm, htm⟩ : ∃ z, z = txE md L := ⟨_, rfl⟩
    have ltx : tx.length ≤ 500 := by rw [htx]; exact txE_len x l
    have ltm : tm.length ≤ 500 := by rw [htm]; exact txE_len md L
    have hCn : ClsM (fun q => q ≠ b19) w5 (.slice am md.claims.length cm) md.claims := hC5.wide fun q hq _ => by have := hq.2; omega
    have hFn : FusM (fun q => q ≠ b19) w5 (.slice af L.length cf) L := own_arr_ne hF5 hE3 (by decide)
    have hrow : ∀ i, i < 2 → ∃ (y : Edg) (k : List Fu) (ay : Option Addr) (cy : Nat) (ak : Option Addr) (ck : Nat), w5.cell? ⟨b17, i * 3, none⟩ = some (.int .i64 y.points) ∧ w5.cell? ⟨b17, i * 3 + 1, none⟩ = some (.int .i64 y.bend) ∧ w5.cell? ⟨b17, i * 3 + 2, none⟩ = some (.slice ay y.claims.length cy) ∧ w5.cell? ⟨b18, i, none⟩ = some (.slice ak k.length ck) ∧ (∀ v w', KP w w5 b19 v w' → ClsM (fun _ => True) w' (.slice ay y.claims.length cy) y.claims ∧ FusM (fun _ => True) w' (.slice ak k.length ck) k) ∧ [tx, tm][i]? = some (txE y k) := by
      intro i hi
      rcases (show i = 0 ∨ i = 1 by omega) with rfl | rfl
      · exact ⟨x, l, ax, cx, al, cl, hE1.cell 0, hE1.cell 1, hE1.cell 2, hE2.cell 0, fun v w' h => ⟨(hx.call h.bel).wide fun _ _ _ => trivial, (hl.call h.bel).wide fun _ _ _ => trivial⟩, by rw [htx]; rfl⟩
      · exact ⟨md, L, am, cm, af, cf, hE1.cell 3, hE1.cell 4, hE1.cell 5, hE2.cell 1, fun v w' h => ⟨(Arr.step hCn h.size (fun q hq hl => h.keep q hl hq)).wide fun _ _ _ => trivial, (Arr.step hFn h.size (fun q hq hl => h.keep q hl hq)).wide fun _ _ _ => trivial⟩, by rw [htm]; rfl⟩
    have HROW := Lib.hid hrow
    have HTS := Lib.hid (And.intro htx htm)
    clear hrow htx htm hE1 hE2 hE3 hCn hFn hC5 hF5
    go_wp2_with fail
    go_loopw [19, 20] (fun vt vi wr => ∃ i : Nat, i ≤ 2 ∧ vi = .int .i64 i ∧ Own w.heap.size wr 9 1 vt (i + 1) (SL (t :: [tx, tm].take i)) ∧ KP w w5 b19 vt wr) (fun _ vi _ => 2 - (intOf vi).toNat)
    case atStart => exact ⟨0, Nat.zero_le _, rfl, hO5, hK5⟩
    case round =>
      obtain ⟨i, hi, rfl, hO, hK⟩ := hrel
      have hwz : w.heap.size ≤ wr.heap.size := hK.bel.size
      obtain ⟨ao, co, rfl⟩ := own_slice hO
      by_cases hi2 : i < 2
      · obtain ⟨y, k, ay, cy, ak, ck, e0, e1, e2, e3, hCM, hts⟩ := HROW.out i hi2
        obtain ⟨X, hXd⟩ : ∃ z, z = txE y k := ⟨_, rfl⟩
        obtain ⟨E, hEd⟩ : ∃ z, z = bothX y k := ⟨_, rfl⟩
        have hwa : ∀ v w', KP w w5 b19 v w' → Calls Tryz.prog 9 #[.agg #[.int .i64 y.points, .int .i64 y.bend, .slice ay y.claims.length cy], .slice ak k.length ck] w' fun e w'' => e = .returned (.tuple #[.string (str X), .int .i64 E]) ∧ Below w'.heap.size w' w'' := fun v w' h => by
          have := wa_c (hCM v w' h).1 (hCM v w' h).2 (hG.call h.bel)
          rw [← hXd, ← hEd] at this
          exact this
        have hwb : ∀ v w', KP w w5 b19 v w' → Calls Tryz.prog 10 #[.agg #[.int .i64 y.points, .int .i64 y.bend, .slice ay y.claims.length cy], .slice ak k.length ck] w' fun e w'' => e = .returned (.tuple #[.string (str X), .int .i64 E]) ∧ Below w'.heap.size w' w'' := fun v w' h => by
          have := wb_c (hCM v w' h).1 (hCM v w' h).2 (hG.call h.bel)
          rw [← hXd, ← hEd] at this
          exact this
        have HWA := Lib.hid hwa
        have HWB := Lib.hid hwb
        have hXl : X.length ≤ 500 := by rw [hXd]; exact txE_len y k
        have HTI := Lib.hid (show [tx, tm][i]? = some X by rw [hts, hXd])
        have hce : ∀ {v : Value} {w' : World}, KP w w5 b19 v w' → w'.cell? ⟨b17, i * 3, none⟩ = some (.int .i64 y.points) ∧ w'.cell? ⟨b17, i * 3 + 1, none⟩ = some (.int .i64 y.bend) ∧ w'.cell? ⟨b17, i * 3 + 2, none⟩ = some (.slice ay y.claims.length cy) ∧ w'.cell? ⟨b18, i, none⟩ = some (.slice ak k.length ck) := fun {v w'} h => by
          have k1 := h.keep b17 hlt17 hne17
          have k2 := h.keep b18 hlt18 hne18
          exact ⟨(cell_heap k1).trans e0, (cell_heap k1).trans e1, (cell_heap k1).trans e2, (cell_heap k2).trans e3⟩
        have HCE := Lib.hid (show ∀ (v : Value) (w' : World), KP w w5 b19 v w' → _ from fun v w' h => hce h)
        clear hwa hwb hXd hEd hts hce e0 e1 e2 e3 hCM
        have hi2i : (i : Int) < 2 := by omega
        have hi0i : 0 ≤ (i : Int) := by omega
        go_wp2_with fail
        refine wp_region_mix2 (.pur 0 (.pur 1 (.pur 2 (.pur 4 (.pur 5 (.pur 6 (.one 3 (.one 7 (.act 8 (.pur 9 (.pur 10 (.pur 11 (.pur 12 (.pur 13 .fin)))))))))))))) 8 (fun u => u.cell? ⟨b17, i * 3, none⟩ = some (.int .i64 y.points) ∧ u.cell? ⟨b17, i * 3 + 1, none⟩ = some (.int .i64 y.bend) ∧ u.cell? ⟨b17, i * 3 + 2, none⟩ = some (.slice ay y.claims.length cy) ∧ u.cell? ⟨b18, i, none⟩ = some (.slice ak k.length ck)) (fun _ => True) (by kernel_rfl) (by kernel_rfl) rfl (by kernel_rfl) (HCE.out _ _ (hK.call (((Qt.refl wr).drewN 1).below _))) (fun we hq9 _ => ?_)
        have hK6 := hK.call (hq9.below _)
        refine mix_pur2 rfl (fun K hKK => ?_)
        go_simp
        first | refine ⟨_, fun _ => rfl, hKK _ ?_⟩ | refine hKK _ ?_
        clear hKK K
        refine mix_pur2 rfl (fun K hKK => ?_)
        go_simp
        first | refine ⟨_, fun _ => rfl, hKK _ ?_⟩ | refine hKK _ ?_
        clear hKK K
        refine mix_pur2 rfl (fun K hKK => ?_)
        go_simp
        first | refine ⟨_, fun _ => rfl, hKK _ ?_⟩ | refine hKK _ ?_
        clear hKK K
        refine mix_pur2 rfl (fun K hKK => ?_)
        go_simp
        first | refine ⟨_, fun _ => rfl, hKK _ ?_⟩ | refine hKK _ ?_
        clear hKK K
        refine mix_pur2 rfl (fun K hKK => ?_)
        go_simp
        first | refine ⟨_, fun _ => rfl, hKK _ ?_⟩ | refine hKK _ ?_
        clear hKK K
        refine mix_pur2 rfl (fun K hKK => ?_)
        go_simp
        first | refine ⟨_, fun _ => rfl, hKK _ ?_⟩ | refine hKK _ ?_
        clear hKK K
        refine mix_load2 rfl rfl rfl (.agg #[.int .i64 y.points, .int .i64 y.bend, .slice ay y.claims.length cy]) (fun w' h => by have h : (fun u => u.cell? ⟨b17, i * 3, none⟩ = some (.int .i64 y.points) ∧ u.cell? ⟨b17, i * 3 + 1, none⟩ = some (.int .i64 y.bend) ∧ u.cell? ⟨b17, i * 3 + 2, none⟩ = some (.slice ay y.claims.length cy) ∧ u.cell? ⟨b18, i, none⟩ = some (.slice ak k.length ck)) w' := h; have h0 := h.1; have h1 := h.2.1; have h2 := h.2.2.1; go_simp) rfl ?_
        refine mix_load2 rfl rfl rfl (.slice ak k.length ck) (fun w' h => by have h : (fun u => u.cell? ⟨b17, i * 3, none⟩ = some (.int .i64 y.points) ∧ u.cell? ⟨b17, i * 3 + 1, none⟩ = some (.int .i64 y.bend) ∧ u.cell? ⟨b17, i * 3 + 2, none⟩ = some (.slice ay y.claims.length cy) ∧ u.cell? ⟨b18, i, none⟩ = some (.slice ak k.length ck)) w' := h; have h0 := h.2.2.2; go_simp) rfl ?_
        refine mix_eff2 rfl true rfl (fun K hKK => ?_)
        go_simp
        refine (HWA.out _ we hK6).mono ?_
        rintro e w7 ⟨rfl, hB7⟩
        refine hKK _ _ trivial ?_
        clear hKK K
        refine mix_pur2 rfl (fun K hKK => ?_)
        go_simp
        first | refine ⟨_, fun _ => rfl, hKK _ ?_⟩ | refine hKK _ ?_
        clear hKK K
        refine mix_pur2 rfl (fun K hKK => ?_)
        go_simp
        first | refine ⟨_, fun _ => rfl, hKK _ ?_⟩ | refine hKK _ ?_
        clear hKK K
        refine mix_pur2 rfl (fun K hKK => ?_)
        go_simp
        first | refine ⟨_, fun _ => rfl, hKK _ ?_⟩ | refine hKK _ ?_
        clear hKK K
        refine mix_pur2 rfl (fun K hKK => ?_)
        go_simp
        first | refine ⟨_, fun _ => rfl, hKK _ ?_⟩ | refine hKK _ ?_
        clear hKK K
        refine mix_pur2 rfl (fun K hKK => ?_)
        go_simp
        first | refine ⟨_, fun _ => rfl, hKK _ ?_⟩ | refine hKK _ ?_
        clear hKK K
        refine mix_done2 ?_
        have hK7 := hK6.call hB7
        clear hK6
        go_wp2_with fail
        refine wp_region_mix2 (.pur 0 (.pur 1 (.pur 2 (.pur 4 (.pur 5 (.pur 6 (.one 3 (.one 7 (.act 8 (.pur 9 (.pur 10 (.pur 11 (.pur 12 (.pur 13 .fin)))))))))))))) 8 (fun u => u.cell? ⟨b17, i * 3, none⟩ = some (.int .i64 y.points) ∧ u.cell? ⟨b17, i * 3 + 1, none⟩ = some (.int .i64 y.bend) ∧ u.cell? ⟨b17, i * 3 + 2, none⟩ = some (.slice ay y.claims.length cy) ∧ u.cell? ⟨b18, i, none⟩ = some (.slice ak k.length ck)) (fun _ => True) (by kernel_rfl) (by kernel_rfl) rfl (by kernel_rfl) (HCE.out _ _ (hK7.call (((Qt.refl w7).drewN 1).below _))) (fun wf hq10 _ => ?_)
        have hK6 := hK7.call (hq10.below _)
        refine mix_pur2 rfl (fun K hKK => ?_)
        go_simp
        first | refine ⟨_, fun _ => rfl, hKK _ ?_⟩ | refine hKK _ ?_
        clear hKK K
        refine mix_pur2 rfl (fun K hKK => ?_)
        go_simp
        first | refine ⟨_, fun _ => rfl, hKK _ ?_⟩ | refine hKK _ ?_
        clear hKK K
        refine mix_pur2 rfl (fun K hKK => ?_)
        go_simp
        first | refine ⟨_, fun _ => rfl, hKK _ ?_⟩ | refine hKK _ ?_
        clear hKK K
        refine mix_pur2 rfl (fun K hKK => ?_)
        go_simp
        first | refine ⟨_, fun _ => rfl, hKK _ ?_⟩ | refine hKK _ ?_
        clear hKK K
        refine mix_pur2 rfl (fun K hKK => ?_)
        go_simp
        first | refine ⟨_, fun _ => rfl, hKK _ ?_⟩ | refine hKK _ ?_
        clear hKK K
        refine mix_pur2 rfl (fun K hKK => ?_)
        go_simp
        first | refine ⟨_, fun _ => rfl, hKK _ ?_⟩ | refine hKK _ ?_
        clear hKK K
        refine mix_load2 rfl rfl rfl (.agg #[.int .i64 y.points, .int .i64 y.bend, .slice ay y.claims.length cy]) (fun w' h => by have h : (fun u => u.cell? ⟨b17, i * 3, none⟩ = some (.int .i64 y.points) ∧ u.cell? ⟨b17, i * 3 + 1, none⟩ = some (.int .i64 y.bend) ∧ u.cell? ⟨b17, i * 3 + 2, none⟩ = some (.slice ay y.claims.length cy) ∧ u.cell? ⟨b18, i, none⟩ = some (.slice ak k.length ck)) w' := h; have h0 := h.1; have h1 := h.2.1; have h2 := h.2.2.1; go_simp) rfl ?_
        refine mix_load2 rfl rfl rfl (.slice ak k.length ck) (fun w' h => by have h : (fun u => u.cell? ⟨b17, i * 3, none⟩ = some (.int .i64 y.points) ∧ u.cell? ⟨b17, i * 3 + 1, none⟩ = some (.int .i64 y.bend) ∧ u.cell? ⟨b17, i * 3 + 2, none⟩ = some (.slice ay y.claims.length cy) ∧ u.cell? ⟨b18, i, none⟩ = some (.slice ak k.length ck)) w' := h; have h0 := h.2.2.2; go_simp) rfl ?_
        refine mix_eff2 rfl true rfl (fun K hKK => ?_)
        go_simp
        refine (HWB.out _ wf hK6).mono ?_
        rintro e w8 ⟨rfl, hB8⟩
        refine hKK _ _ trivial ?_
        clear hKK K
        refine mix_pur2 rfl (fun K hKK => ?_)
        go_simp
        first | refine ⟨_, fun _ => rfl, hKK _ ?_⟩ | refine hKK _ ?_
        clear hKK K
        refine mix_pur2 rfl (fun K hKK => ?_)
        go_simp
        first | refine ⟨_, fun _ => rfl, hKK _ ?_⟩ | refine hKK _ ?_
        clear hKK K
        refine mix_pur2 rfl (fun K hKK => ?_)
        go_simp
        first | refine ⟨_, fun _ => rfl, hKK _ ?_⟩ | refine hKK _ ?_
        clear hKK K
        refine mix_pur2 rfl (fun K hKK => ?_)
        go_simp
        first | refine ⟨_, fun _ => rfl, hKK _ ?_⟩ | refine hKK _ ?_
        clear hKK K
        refine mix_pur2 rfl (fun K hKK => ?_)
        go_simp
        first | refine ⟨_, fun _ => rfl, hKK _ ?_⟩ | refine hKK _ ?_
        clear hKK K
        refine mix_done2 ?_
        have hK8 := hK6.call hB8
        clear hK6
        have hA7 := (Below.refl w8.heap.size w8).alloc (Nat.le_refl _) (.cells #[.string (str X)] 9)
        have hO7 := (((hO.qt hq9).call hB7).qt hq10).call hB8 |>.alloc (.cells #[.string (str X)] 9)
        have hz8 : w.heap.size ≤ w8.heap.size := hK8.bel.size
        have hK9 := hK8.call hA7
        have hXX : (X == X) = true := by simp
        have hEE : (E != E) = false := by simp
        clear hK7 hK8 hK hq9 hq10 hB7 hB8
        go_wp2_with (at_builtin; go_loud (refine wpList_append_arr rfl _ _ 34 rfl 9 (.string ⟨#[]⟩) 1 16 Tryz.underlying34 Tryz.info9 rfl (by decide) (by decide) (by simp; omega) hO7 rfl (arr_one w8 9 (.string (str X))) rfl rfl (one_str _) (by omega) ?_); intro v9 w9 hown hT9)
        have hK10 := hK9.turn hO7 hT9
        go_roundw
        case rel =>
          refine ⟨i + 1, by omega, by go_num, ?_, hK10⟩
          have hti := HTI.out
          rw [List.getElem?_eq_getElem (show i < [tx, tm].length from hi2)] at hti
          rw [List.take_succ_eq_append_getElem (show i < [tx, tm].length from hi2), Option.some.inj hti, ← List.cons_append, SL_append]
          exact hown
        case measure => simp [intOf]; omega
      · obtain rfl : i = 2 := by omega
        have hO4 : Own w.heap.size wr 9 1 (.slice ao 3 co) 3 (SL [t, tx, tm]) := hO
        obtain ⟨g, cap, hgv, hgw, hcap, -, hSg⟩ := own_words hO4 (by simp)
        have hgv : ao = some ⟨g, 0, none⟩ := by injection hgv
        subst hgv
        have d2 : wr.cell? ⟨g, 2, none⟩ = some (.string (str tm)) := hSg.2 2 (show 2 < [t, tx, tm].length from by simp)
        have hBl := blot_r tm (by omega) at8 hx8 ha hh by8 wr
        have HBL := Lib.hid hBl
        clear hBl hO
        go_wp2_with fail
        refine HBL.out.mono ?_
        rintro e w6 ⟨⟨r, rfl, hrl⟩, hB6⟩
        have hO6 := (hO4.call hB6).alloc (.cells #[.string (str r)] 9)
        have hA6 := (Below.refl w6.heap.size w6).alloc (Nat.le_refl _) (.cells #[.string (str r)] 9)
        have hK6 := (hK.call hB6).call hA6
        have hz6 : w.heap.size ≤ w6.heap.size := by have := hB6.size; omega
        clear d2
        go_upto_region 15 with (at_builtin; go_loud (refine wpList_append_arr rfl _ _ 34 rfl 9 (.string ⟨#[]⟩) 1 16 Tryz.underlying34 Tryz.info9 rfl (by decide) (by decide) (by simp; omega) hO6 rfl (arr_one w6 9 (.string (str r))) rfl rfl (one_str _) (by omega) ?_); intro v9 w9 hown hT9)
        have hK9 := hK6.turn hO6 hT9
        have hO9 : Own w.heap.size w9 9 1 v9 4 (SL [t, tx, tm, r]) := hown
        obtain ⟨g9, cap9, hv9, hg9w, hcap9, -, hS9⟩ := own_words hO9 (by simp)
        have hv9 : v9 = .slice (some ⟨g9, 0, none⟩) 4 cap9 := hv9
        subst hv9
        have hB9 := hK9.bel
        have hlen4 : ∀ x ∈ [t, tx, tm, r], x.length ≤ 9000000000000000000 := fun x hx => by
          simp only [List.mem_cons, List.not_mem_nil, or_false] at hx
          rcases hx with rfl | rfl | rfl | rfl <;> omega
        obtain ⟨W4, hW4⟩ : ∃ W, W = [t, tx, tm, r] := ⟨_, rfl⟩
        rw [← hW4] at hS9 hlen4
        have hW4l : W4.length ≤ 4 ∧ 4 ≤ W4.length := by rw [hW4]; exact ⟨Nat.le_refl _, Nat.le_refl _⟩
        have hG9 := hG.call hB9
        clear hW4 hO9 hown hT9 hO6 hK6 hK9 hA6 hK hO4 hSg HBL
        go_wp2_with fail
        go_loopw [25] (fun vi wr => ∃ i : Nat, i ≤ 4 ∧ vi = .int .i64 i ∧ Below w9.heap.size w9 wr) (fun vi _ => 4 - (intOf vi).toNat)
        case atStart => exact ⟨0, Nat.zero_le _, rfl, Below.refl _ _⟩
        case round =>
          rename World => wu
          obtain ⟨i, hi, rfl, hB⟩ := hrel
          have hBx := bnw hB9 hB
          by_cases hi4 : i < 4
          · have hiw : i < W4.length := by omega
            obtain ⟨z, hzd⟩ : ∃ x, x = W4[i] := ⟨_, rfl⟩
            have hzl := hlen4 z (by rw [hzd]; exact List.getElem_mem _)
            have hSr := hS9.call hB
            have d0 := hSr.2 i hiw
            rw [Nat.zero_add, ← hzd] at d0
            have HZD := Lib.hid hzd
            clear hzd
            have hGr := hG9.call hB
            obtain ⟨R, hR⟩ : ∃ y, y = readR z := ⟨_, rfl⟩
            have hra := read_c z hzl wu hGr
            have hrb : ∀ w', Calls Tryz.prog 13 #[.string (str z)] w' (RdPost R w') := fun w' => by rw [hR]; exact read_r z hzl w'
            rw [← hR] at hra
            have HRA := Lib.hid hra
            have HRB := Lib.hid hrb
            clear hra hrb hR
            go_wp2_with fail
            refine HRA.out.mono ?_
            rintro e w11 ⟨vy, vk, rfl, hC11, hF11, hB11⟩
            obtain ⟨ay, cy, rfl, _, _⟩ := hC11.shape
            obtain ⟨ak, ck, rfl, _, _⟩ := hF11.shape
            go_upto_region 19 with fail
            obtain ⟨w12, hw12⟩ : ∃ w6, w6 = w11.alloc (.cells #[.int .i64 R.x.points, .int .i64 R.x.bend, .slice ay R.x.claims.length cy] 24) := ⟨_, rfl⟩
            obtain ⟨b26, hb26⟩ : ∃ b, b = w11.heap.size := ⟨_, rfl⟩
            have hX12 : Blk b26 #[.int .i64 R.x.points, .int .i64 R.x.bend, .slice ay R.x.claims.length cy] 24 w12 := by rw [hw12, hb26]; exact Blk.new _ _ _
            have hA12 : Below w11.heap.size w11 w12 := by rw [hw12]; exact (Below.refl _ w11).alloc (Nat.le_refl _) _
            have hB12 := bnw hB11 hA12
            have hC12 := hC11.call hA12
            have hF12 := hF11.call hA12
            rw [← hw12, ← hb26]
            clear hw12 hb26 hA12 hC11 hF11 hB11 d0
            have d0 := (hSr.call hB12).2 i hiw
            rw [Nat.zero_add, ← HZD.out] at d0
            go_wp2_with fail
            refine (HRB.out w12).mono ?_
            rintro e w13 ⟨vy2, vk2, rfl, hC13, hF13, hB13⟩
            obtain ⟨ay2, cy2, rfl, _, _⟩ := hC13.shape
            obtain ⟨ak2, ck2, rfl, _, _⟩ := hF13.shape
            go_upto_region 20 with fail
            obtain ⟨w14, hw14⟩ : ∃ w6, w6 = w13.alloc (.cells #[.int .i64 R.x.points, .int .i64 R.x.bend, .slice ay2 R.x.claims.length cy2] 24) := ⟨_, rfl⟩
            obtain ⟨b30, hb30⟩ : ∃ b, b = w13.heap.size := ⟨_, rfl⟩
            have hX14 : Blk b30 #[.int .i64 R.x.points, .int .i64 R.x.bend, .slice ay2 R.x.claims.length cy2] 24 w14 := by rw [hw14, hb30]; exact Blk.new _ _ _
            have hA14 : Below w13.heap.size w13 w14 := by rw [hw14]; exact (Below.refl _ w13).alloc (Nat.le_refl _) _
            have hB14 := bnw hB13 hA14
            have hC14 := hC13.call hA14
            have hF14 := hF13.call hA14
            have hX24 := hX12.call hB14
            have hC24 := hC12.call hB14
            have hF24 := hF12.call hB14
            rw [← hw14, ← hb30]
            clear hw14 hb30 hA14 hC13 hF13 hB13 d0 hX12 hC12 hF12
            have hLL : (R.line != R.line) = false := by simp
            have hEE : (R.e != R.e) = false := by simp
            have c0 := hX24.cell 0
            have c1 := hX24.cell 1
            have c2 := hX24.cell 2
            have d0 := hX14.cell 0
            have d1 := hX14.cell 1
            have d2 := hX14.cell 2
            go_wp2_with fail
            clear c0 c1 c2 d0 d1 d2
            refine (sameEdges_c hC24 hC14).mono ?_
            rintro e w15 ⟨rfl, hB15⟩
            go_wp2_with fail
            refine (furs_c (hF24.call hB15) (hF14.call hB15)).mono ?_
            rintro e w16 ⟨rfl, hB16⟩
            go_wp2_with fail
            go_roundw
            case rel => exact ⟨i + 1, by omega, by go_num, bnw hB (bnw hB12 (bnw hB14 (bnw hB15 hB16)))⟩
            case measure => simp [intOf]; omega
          · obtain rfl : i = 4 := by omega
            go_wp2_with fail
            refine (surveyed_c _).mono ?_
            rintro e wz ⟨rfl, hBz⟩
            go_wp2_with fail
            go_ret
            exact ⟨rfl, bnw hBx hBz⟩

end Go.Proofs.YtbpfhoihfoojfaaGreatDoor
