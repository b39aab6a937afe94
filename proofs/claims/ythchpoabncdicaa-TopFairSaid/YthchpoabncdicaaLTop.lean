/- The walk of TopFair: it hands back true, whatever the numbers; conditions: the argument reads as numbers. -/
import Derived.Test.YthchpoabncdicaaTopP
import Derived.Test.YthchpoabncdicaaOrd
namespace Go.Proofs.Ythchpoabncdicaa
open Go.RowKit

theorem pcells_at : ∀ (ps : List Pas) (i : Nat) (hi : i < ps.length), (pcells ps)[i * 6]? = some (.int .i64 ps[i].grass) ∧ (pcells ps)[i * 6 + 1]? = some (.int .i64 ps[i].bears) ∧ (pcells ps)[i * 6 + 2]? = some (.int .i64 ps[i].dry) ∧ (pcells ps)[i * 6 + 3]? = some (.int .i64 ps[i].wet) ∧ (pcells ps)[i * 6 + 4]? = some (.int .i64 ps[i].stub) ∧ (pcells ps)[i * 6 + 5]? = some (.int .i64 ps[i].sleep)
  | [], i, hi => by simp at hi
  | p :: t, 0, _ => by simp [pcells]
  | p :: t, i + 1, hi => by
    have ih := pcells_at t i (by simpa using hi)
    have e : ∀ j, (pcells (p :: t))[(i + 1) * 6 + j]? = (pcells t)[i * 6 + j]? := fun j => by
      rw [pcells, List.getElem?_append_right (by simp; omega)]
      congr 1
      simp; omega
    have e0 := e 0
    simp only [Nat.add_zero] at e0
    simp only [e, e0, List.getElem_cons_succ]
    exact ih

theorem topW_mem {n m : Nat} : ∀ l ∈ wordsL n m, l.length = m ∧ ∀ y ∈ l, 0 ≤ y ∧ y < (n : Int) := by
  induction m with
  | zero => intro l hl; simp [wordsL] at hl; simp [hl]
  | succ m ih =>
    intro l hl
    simp only [wordsL, List.mem_flatMap, List.mem_map, List.mem_range] at hl
    obtain ⟨i, hi, t, ht, rfl⟩ := hl
    obtain ⟨h1, h2⟩ := ih t ht
    refine ⟨by simp [h1], fun y hy => ?_⟩
    rcases List.mem_cons.1 hy with h | h
    · subst h; omega
    · exact h2 y h

/-- What a look at a pasture, the sky and a village reads. -/
structure TA (w : World) (sb cb pb po vb vo : Nat) (vm vv : Value) (m : Nat) (p : Pas) (s : Sky) (v : Nat) (hd : Int) : Prop where
  p0 : w.cell? ⟨pb, po + m * 6, none⟩ = some (.int .i64 p.grass)
  p1 : w.cell? ⟨pb, po + m * 6 + 1, none⟩ = some (.int .i64 p.bears)
  p2 : w.cell? ⟨pb, po + m * 6 + 2, none⟩ = some (.int .i64 p.dry)
  p3 : w.cell? ⟨pb, po + m * 6 + 3, none⟩ = some (.int .i64 p.wet)
  p4 : w.cell? ⟨pb, po + m * 6 + 4, none⟩ = some (.int .i64 p.stub)
  p5 : w.cell? ⟨pb, po + m * 6 + 5, none⟩ = some (.int .i64 p.sleep)
  sk : Blk sb #[.int .i64 s.days, .int .i64 s.drought, .int .i64 s.flood] 67 w
  cm : Blk cb #[vm, vv] 25 w
  hd : w.cell? ⟨vb, vo + v * 3 + 1, none⟩ = some (.int .i64 hd)
theorem TA.drew {w : World} {sb cb pb po vb vo : Nat} {vm vv : Value} {m : Nat} {p : Pas} {s : Sky} {v : Nat} {hd : Int} (h : TA w sb cb pb po vb vo vm vv m p s v hd) : TA w.drew sb cb pb po vb vo vm vv m p s v hd := ⟨h.p0, h.p1, h.p2, h.p3, h.p4, h.p5, h.sk, h.cm, h.hd⟩

theorem ta_of {A : Nat → Prop} {W : World} {sb cb pb po cpp vb vo cpv n : Nat} {vm vv : Value} {ps : List Pas} {vs : List Vil} {s : Sky} (hs : Blk sb #[.int .i64 s.days, .int .i64 s.drought, .int .i64 s.flood] 67 W) (hc : Blk cb #[vm, vv] 25 W) (hp : Arr A W (.slice (some ⟨pb, po, none⟩) n cpp) n (pcells ps)) (hv : Vils A W (.slice (some ⟨vb, vo, none⟩) n cpv) vs) (m v : Nat) (hm : m < ps.length) (hvi : v < vs.length) :
    TA W sb cb pb po vb vo vm vv m ps[m] s v vs[v].herd := by
  obtain ⟨ao, c, -, h2, -, -⟩ := hv.at v hvi
  obtain ⟨p0, p1, p2, p3, p4, p5⟩ := pcells_at ps m hm
  have hlen : 0 < (pcells ps).length := (List.getElem?_eq_some_iff.1 p5).1 |> fun h => by omega
  obtain ⟨b', o', he, -, -, hcell⟩ := hp.addr hlen
  injection he with he
  injection he with e1 e2
  subst e1; subst e2
  have hk : ∀ j u, (pcells ps)[m * 6 + j]? = some u → W.cell? ⟨pb, po + m * 6 + j, none⟩ = some u := fun j u h => by rw [Nat.add_assoc]; exact hcell _ u h
  exact ⟨hcell _ _ p0, hk 1 _ p1, hk 2 _ p2, hk 3 _ p3, hk 4 _ p4, hk 5 _ p5, hs, hc, h2⟩

set_option maxRecDepth 100000 in
set_option maxHeartbeats 8000000 in
theorem topFair_c {A : Nat → Prop} {w : World} {v : Value} {nums : List Int} (hn : Ints A w v nums) :
    Calls Try.prog 13 #[v] w fun e w' => e = .returned (.bool true) ∧ Below w.heap.size w w' := by
  go_enter Try.func13, Try.ntmps13
  go_wp2_with fail
  refine (newHand_c hn).mono ?_
  rintro e w1 ⟨rfl, hH, hB1⟩
  have hs1 := hH.lt
  go_wp2_with fail
  refine (ranges_c hH (by omega)).mono ?_
  rintro e w2 ⟨vl, vm, vv, ms, vs, ps, s, rfl, hC, hD, hn1, hn3, hs, hP, hG⟩
  have hB2 : Below w.heap.size w w2 := hB1.grown hG (by omega) (fun k e => by injection e with e; omega)
  obtain ⟨c, rfl, rfl⟩ : ∃ c : Com, c.mountains = ms ∧ c.villages = vs := ⟨⟨ms, vs⟩, rfl, rfl⟩
  have hC : Cm (fun b => w1.heap.size ≤ b) w2 vm vv c := hC
  have hvl : c.villages.length = c.mountains.length := hD.vl
  have hpl : ps.length = c.villages.length := hD.pl.trans hvl.symm
  have hok3 : c.Ok 3 := ⟨hn1, hn3, hvl, hD.mb, hD.vb⟩
  have hok : c.Ok 4 := { hok3 with n2 := by omega }
  have hN1 : 0 < c.villages.length := by omega
  have hN3 : c.villages.length ≤ 3 := by omega
  have hfed : ∀ (m v : Nat) (hm : m < ps.length) (hv : v < c.villages.length), fedAll ps[m] s c.villages[v].herd = decide (overV c v (m : Int) = 0) := by
    intro m v hm hv
    have hm' : m < c.mountains.length := by omega
    have h1 := hD.vb c.villages[v] (List.getElem_mem hv)
    have h2 := hD.hd v hv (by omega)
    rw [(hD.hh m hm hm').fed (hD.pk m hm) h1.2.2.1 h2]
    unfold overV
    rw [her_at hv, Int.toNat_natCast, List.getD_eq_getElem?_getD, List.getElem?_eq_getElem hm']
    simp only [Option.getD_some]
    refine decide_eq_decide.2 ?_
    omega
  have hpk := hD.pk
  have hvd : ∀ v (hv : v < c.villages.length), 0 ≤ c.villages[v].herd ∧ c.villages[v].herd ≤ 40 := fun v hv => ⟨(hD.vb c.villages[v] (List.getElem_mem hv)).2.2.1, hD.hd v hv (by omega)⟩
  have hmle : c.mountains.length ≤ c.villages.length := Nat.le_of_eq hvl.symm
  have hmge : c.villages.length ≤ c.mountains.length := Nat.le_of_eq hvl
  have hple : ps.length ≤ c.villages.length := Nat.le_of_eq hpl
  have hpge : c.villages.length ≤ ps.length := Nat.le_of_eq hpl.symm
  rw [hpl] at hP
  have HVL := Lib.hid hvl
  have HPL := Lib.hid hpl
  clear hvl hpl
  obtain ⟨pb, po, cpp, rfl, hPc⟩ : ∃ pb po cpp, vl = .slice (some ⟨pb, po, none⟩) c.villages.length cpp ∧ True := by
    obtain ⟨ao, cap, rfl, h1, h2, h3⟩ := hP
    have h4 := (pcells_at ps 0 (by omega)).1
    rcases h3 with h3 | ⟨b, off, rfl, -, -, -⟩
    · rw [h3] at h4; simp at h4
    · exact ⟨b, off, cap, rfl, trivial⟩
  clear hPc hD hG hB1 hH
  obtain ⟨am, cpm, rfl, _, _⟩ := hC.1.shape
  obtain ⟨av, cpv, rfl, _, _⟩ := hC.2.shape
  obtain ⟨mb, mo, rfl, -, -, -⟩ := hC.1.addr (by omega)
  obtain ⟨vb, vo, rfl, -⟩ := hC.2.addr hN1
  go_upto_region 2 with fail
  obtain ⟨w3, hw3⟩ : ∃ w3, w3 = ((w2.alloc (.cells #[.int .i64 s.days, .int .i64 s.drought, .int .i64 s.flood] 67)).alloc (.cells #[.slice (some ⟨mb, mo, none⟩) c.mountains.length cpm, .slice (some ⟨vb, vo, none⟩) c.villages.length cpv] 25)) := ⟨_, rfl⟩
  obtain ⟨sb, hsb⟩ : ∃ b, b = w2.heap.size := ⟨_, rfl⟩
  obtain ⟨cb, hcb⟩ : ∃ b, b = w2.heap.size + 1 := ⟨_, rfl⟩
  have hS3 : Blk sb #[.int .i64 s.days, .int .i64 s.drought, .int .i64 s.flood] 67 w3 := by rw [hw3, hsb]; exact (blk_at rfl _ _).alloc _
  have hX3 : Blk cb #[.slice (some ⟨mb, mo, none⟩) c.mountains.length cpm, .slice (some ⟨vb, vo, none⟩) c.villages.length cpv] 25 w3 := by rw [hw3, hcb]; exact blk_at (by simp) _ _
  have hB3 : Below w2.heap.size w2 w3 := by rw [hw3]; exact ((Below.refl _ w2).alloc (Nat.le_refl _) _).alloc (by simp) _
  rw [← hw3, ← hcb, ← hsb]
  clear hw3 hcb hsb
  have hC3 := hC.call hB3
  have hP3 := hP.step hB3.size fun k _ hl => hB3.block k hl
  have hT3 := bnx hB2 hB3
  clear hC hP hB2 hB3
  have c1 := hX3.cell 1
  go_upto_region 3 with fail
  clear c1
  obtain ⟨F, hF⟩ : ∃ F, F = fairF c := ⟨_, rfl⟩
  obtain ⟨hF1, hF2, hF3⟩ := fair_years hok3
  have hcyc := cycle_heads hok3
  have hfg := fair_good hC3 hok
  rw [← hF] at hF1 hF2 hcyc hfg
  have he0 : checkE c = 0 := (checkE_zero c).2 hok
  obtain ⟨B, hB⟩ : ∃ B, B = leastB (overSum c) c := ⟨_, rfl⟩
  obtain ⟨hBm, hBl⟩ := room_least hok he0
  have hrc := fun (w' : World) (h : Cm (fun b => w1.heap.size ≤ b) w' (.slice (some ⟨mb, mo, none⟩) c.mountains.length cpm) (.slice (some ⟨vb, vo, none⟩) c.villages.length cpv) c) => room_c h
  have hln : leastN (overSum c) c = overSum c B := by rw [leastN, if_pos he0, hB]
  rw [he0, hln, ← hB] at hrc
  rw [← hB] at hBm hBl
  obtain ⟨R, hR⟩ : ∃ R, R = overSum c B := ⟨_, rfl⟩
  rw [← hR] at hrc hBl
  have hBp := divs_perm (by omega) hBm
  have hBn := hBp.len
  have HF1 := Lib.hid hF1
  have HF2 := Lib.hid hF2
  have HCY := Lib.hid hcyc
  have HFG := Lib.hid hfg
  have HRC := Lib.hid hrc
  have HBP := Lib.hid hBp
  have HBL := Lib.hid hBl
  have HBN := Lib.hid hBn
  have HR := Lib.hid hR
  have HOK := Lib.hid hok
  clear hF hF1 hF2 hF3 hcyc hfg he0 hB hBm hBl hrc hln hR hBp hBn hok3 hok
  have c0 := hX3.cell 0
  have c1 := hX3.cell 1
  go_wp2_with fail
  clear c0 c1
  refine HFG.out.mono ?_
  rintro e w4 ⟨vg, rfl, hg, hB4⟩
  have hC4 := hC3.call hB4
  have hX4 := hX3.call hB4
  have hS4 := hS3.call hB4
  have hP4 := hP3.step hB4.size fun k _ hl => hB4.block k hl
  have hT4 := bnx hT3 hB4
  have hsg := hg.shape
  rw [HF1.out] at hsg
  obtain ⟨ag, cg, rfl, _, _⟩ := hsg
  obtain ⟨yb, yo, rfl, -, hybl⟩ := hg.addr (by rw [HF1.out]; exact hN1)
  clear HFG hC3 hX3 hS3 hP3 hT3 hB4
  have c0 := hX4.cell 0
  have c1 := hX4.cell 1
  go_wp2_with fail
  clear c0 c1
  refine (HRC.out _ hC4).mono ?_
  rintro e w5 ⟨vr, rfl, hr, hB5⟩
  have hC5 := hC4.call hB5
  have hX5 := hX4.call hB5
  have hS5 := hS4.call hB5
  have hP5 := hP4.step hB5.size fun k _ hl => hB5.block k hl
  have hT5 := bnx hT4 hB5
  have hyb5 : yb < w5.heap.size := Nat.lt_of_lt_of_le hybl hB5.size
  have hg5 := hg.call hB5
  have hsr := hr.shape
  rw [HBN.out] at hsr
  obtain ⟨ar, cr, rfl, _, _⟩ := hsr
  obtain ⟨bb, bo, rfl, -⟩ := hr.addr (by rw [HBN.out]; exact hN1)
  clear HRC hC4 hX4 hS4 hP4 hT4 hB5 hg
  have hTA : ∀ (m v : Nat) (hm : m < ps.length) (hv : v < c.villages.length) (w' : World), Below w5.heap.size w5 w' → TA w' sb cb pb po vb vo (.slice (some ⟨mb, mo, none⟩) c.mountains.length cpm) (.slice (some ⟨vb, vo, none⟩) c.villages.length cpv) m ps[m] s v c.villages[v].herd := fun m v hm hv w' h' =>
    ta_of (hS5.call h') (hX5.call h') (hP5.step h'.size fun k _ hl => h'.block k hl) (hC5.2.call h') m v hm hv
  have hMT : ∀ (m : Nat) (hm : m < c.mountains.length) (w' : World), Below w5.heap.size w5 w' → w'.cell? ⟨mb, mo + m, none⟩ = some (.int .i64 c.mountains[m]) := fun m hm w' h' => (hC5.1.call h').cell m hm
  have hYR : ∀ (y : Nat) (hy : y < c.villages.length), ∃ (rb ro rc : Nat), (∀ w', Below w5.heap.size w5 w' → w'.cell? ⟨yb, yo + y, none⟩ = some (.slice (some ⟨rb, ro, none⟩) c.villages.length rc) ∧ Ints (fun k => w3.heap.size ≤ k) w' (.slice (some ⟨rb, ro, none⟩) c.villages.length rc) (F.getD y [])) ∧
      ∀ (v : Nat) (hv : v < c.villages.length), ∃ d : Nat, d < c.villages.length ∧ (F.getD y []).getD v 0 = (d : Int) ∧ ∀ w', Below w5.heap.size w5 w' → w'.cell? ⟨rb, ro + v, none⟩ = some (.int .i64 (d : Int)) := by
    intro y hy
    have hyF : y < F.length := by rw [HF1.out]; exact hy
    have hgd : F.getD y [] = F[y] := by rw [List.getD_eq_getElem?_getD, List.getElem?_eq_getElem hyF]; rfl
    have hp := HF2.out y hy
    rw [hgd] at hp ⊢
    obtain ⟨ao, cc, r1, r2⟩ := hg5.row y hyF
    rw [hp.len] at r1 r2
    obtain ⟨rb, ro, rfl, -⟩ := r2.addr (by rw [hp.len]; exact hN1)
    refine ⟨rb, ro, cc, fun w' h' => ⟨(World.cell?_of_block (h'.block yb hyb5)).trans r1, r2.call h'⟩, fun v hv => ?_⟩
    · have hv2 : v < F[y].length := by rw [hp.len]; exact hv
      have hmm := (hp.mem F[y][v]).1 (List.getElem_mem hv2)
      refine ⟨F[y][v].toNat, by omega, ?_, fun w' h' => ?_⟩
      · rw [List.getD_eq_getElem?_getD, List.getElem?_eq_getElem hv2]
        simp only [Option.getD_some]
        omega
      · rw [(r2.call h').cell v hv2]
        congr 2
        omega
  have hbv : ∀ (v : Nat) (hv : v < c.villages.length), ∃ d : Nat, d < c.villages.length ∧ B.getD v 0 = (d : Int) ∧ ∀ w', Below w5.heap.size w5 w' → w'.cell? ⟨bb, bo + v, none⟩ = some (.int .i64 (d : Int)) := by
    intro v hv
    have hv2 : v < B.length := by rw [HBN.out]; exact hv
    have hmm := (HBP.out.mem B[v]).1 (List.getElem_mem hv2)
    refine ⟨B[v].toNat, by omega, ?_, fun w' h' => ?_⟩
    · rw [List.getD_eq_getElem?_getD, List.getElem?_eq_getElem hv2]
      simp only [Option.getD_some]
      omega
    · rw [(hr.call h').cell v hv2]
      congr 2
      omega
  have hob : ∀ (v m : Nat), 0 ≤ overV c v (m : Int) ∧ overV c v (m : Int) ≤ 60 := fun v m => overV_bd HOK.out v m
  have HTA := Lib.hid hTA
  have HMT := Lib.hid hMT
  have HYR := Lib.hid hYR
  have HBV := Lib.hid hbv
  have HFED := Lib.hid hfed
  have hCM : ∀ w', Below w5.heap.size w5 w' → Cm (fun b => w1.heap.size ≤ b) w' (.slice (some ⟨mb, mo, none⟩) c.mountains.length cpm) (.slice (some ⟨vb, vo, none⟩) c.villages.length cpv) c := fun w' h' => hC5.call h'
  have HCM := Lib.hid hCM
  clear hCM hTA hMT hYR hbv hfed hC5 hX5 hS5 hP5 hg5 hr
  go_wp2_with fail
  go_loopw [13, 15] (fun s13 s15 wr => ∃ v : Nat, v ≤ c.villages.length ∧ s15 = .int .i64 v ∧ s13 = .int .i64 (sumN v fun v => sumN c.villages.length fun m => overV c v (m : Int)) ∧ Below w5.heap.size w5 wr) (fun _ s15 _ => c.villages.length - (intOf s15).toNat)
  case atStart => exact ⟨0, Nat.zero_le _, rfl, rfl, Below.refl _ _⟩
  case round =>
    obtain ⟨v, hv, rfl, rfl, hB⟩ := hrel
    by_cases hvn : v < c.villages.length
    · obtain ⟨T, hT⟩ : ∃ T, T = sumN v fun v => sumN c.villages.length fun m => overV c v (m : Int) := ⟨_, rfl⟩
      have hTb : 0 ≤ T ∧ T ≤ 600 := by
        rw [hT]
        exact ⟨sumN_nonneg fun i _ => sumN_nonneg fun j _ => (hob i j).1, by have := sumN_le (f := fun v => sumN c.villages.length fun m => overV c v (m : Int)) (b := 180) (k := v) (fun i _ => by have := sumN_le (f := fun m => overV c i (m : Int)) (b := 60) (k := c.villages.length) (fun j _ => (hob i j).2); omega); omega⟩
      rw [← hT]
      have HT := Lib.hid hT
      clear hT
      go_wp2_with fail
      go_loopw [13, 16] (fun s13 s16 wq => ∃ m : Nat, m ≤ c.villages.length ∧ s16 = .int .i64 m ∧ s13 = .int .i64 (T + sumN m fun m => overV c v (m : Int)) ∧ Below w5.heap.size w5 wq) (fun _ s16 _ => c.villages.length - (intOf s16).toNat)
      case atStart => exact ⟨0, Nat.zero_le _, rfl, by simp [sumN], hB⟩
      case round =>
        rename World => wq
        obtain ⟨m, hm, rfl, rfl, hBq⟩ := hrel
        by_cases hmn : m < c.villages.length
        · obtain ⟨U, hU⟩ : ∃ U, U = sumN m fun m => overV c v (m : Int) := ⟨_, rfl⟩
          have hUb : 0 ≤ U ∧ U ≤ 180 := by
            rw [hU]
            exact ⟨sumN_nonneg fun j _ => (hob v j).1, by have := sumN_le (f := fun m => overV c v (m : Int)) (b := 60) (k := m) (fun j _ => (hob v j).2); omega⟩
          rw [← hU]
          have HU := Lib.hid hU
          clear hU
          have hmc : m < c.mountains.length := by omega
          obtain ⟨p0, hTA1⟩ : ∃ p0, ∀ w', Below w5.heap.size w5 w' → TA w' sb cb pb po vb vo (.slice (some ⟨mb, mo, none⟩) c.mountains.length cpm) (.slice (some ⟨vb, vo, none⟩) c.villages.length cpv) 0 p0 s v c.villages[v].herd := ⟨_, HTA.out 0 v (by omega) hvn⟩
          have hMT1 := fun w' (h' : Below w5.heap.size w5 w') => HMT.out m hmc w' h'
          have hov : overV c v (m : Int) = max 0 (c.villages[v].herd - c.mountains[m]) := by
            unfold overV
            rw [her_at hvn, Int.toNat_natCast, List.getD_eq_getElem?_getD, List.getElem?_eq_getElem hmc]
            rfl
          have hov2 := hob v m
          obtain ⟨O, hO⟩ : ∃ O, O = overV c v (m : Int) := ⟨_, rfl⟩
          rw [← hO] at hov hov2
          have HO := Lib.hid hO
          clear hO
          have hvdv := hvd v hvn
          have hmb := HOK.out.bears c.mountains[m] (List.getElem_mem hmc)
          generalize c.villages[v].herd = hd at *
          generalize c.mountains[m] = mt at *
          have bw1 : IntKind.i64.wrap (hd - mt) = hd - mt := IntWalk.i64_in _ (by omega)
          have bw2 : IntKind.i64.wrap (T + U + O) = T + U + O := IntWalk.i64_in _ (by omega)
          have hovv : (if mt < hd then hd - mt else 0) = O := by rw [hov]; split <;> omega
          have HOV := Lib.hid hovv
          have BW2 := Lib.hid bw2
          have hBd := bnx hBq (((Qt.refl wq).drewN 1).below _)
          clear hov hovv bw2
          go_wp2_with fail
          refine wp_region_mix2 (.pur 0 (.pur 1 (.one 2 (.pur 3 (.pur 4 (.pur 5 (.one 6 (.pur 7 (.one 8 (.pur 9 (.pur 10 (.one 11 (.pur 12 (.pur 13 (.pur 14 (.pur 15 .fin)))))))))))))))) 99 (fun w' => TA w' sb cb pb po vb vo (.slice (some ⟨mb, mo, none⟩) c.mountains.length cpm) (.slice (some ⟨vb, vo, none⟩) c.villages.length cpv) 0 p0 s v hd ∧ w'.cell? ⟨mb, mo + m, none⟩ = some (.int .i64 mt)) (fun _ => True) (by kernel_rfl) (by kernel_rfl) rfl (by kernel_rfl) ⟨hTA1 _ hBd, hMT1 _ hBd⟩ (fun wd hqd _ => ?_)
          refine mix_pur2 rfl (fun K hK => ?_)
          go_simp
          first | refine ⟨_, fun _ => rfl, hK _ ?_⟩ | refine hK _ ?_
          clear hK K
          refine mix_pur2 rfl (fun K hK => ?_)
          go_simp
          first | refine ⟨_, fun _ => rfl, hK _ ?_⟩ | refine hK _ ?_
          clear hK K
          refine mix_load2 rfl rfl rfl (.slice (some ⟨vb, vo, none⟩) c.villages.length cpv) (fun w' h => by have h : (fun w' => TA w' sb cb pb po vb vo (.slice (some ⟨mb, mo, none⟩) c.mountains.length cpm) (.slice (some ⟨vb, vo, none⟩) c.villages.length cpv) 0 p0 s v hd ∧ w'.cell? ⟨mb, mo + m, none⟩ = some (.int .i64 mt)) w' := h; have h0 := h.1.cm.cell 1; go_simp) rfl ?_
          refine mix_pur2 rfl (fun K hK => ?_)
          go_simp
          first | refine ⟨_, fun _ => rfl, hK _ ?_⟩ | refine hK _ ?_
          clear hK K
          refine mix_pur2 rfl (fun K hK => ?_)
          go_simp
          first | refine ⟨_, fun _ => rfl, hK _ ?_⟩ | refine hK _ ?_
          clear hK K
          refine mix_pur2 rfl (fun K hK => ?_)
          go_simp
          first | refine ⟨_, fun _ => rfl, hK _ ?_⟩ | refine hK _ ?_
          clear hK K
          refine mix_load2 rfl rfl rfl (.int .i64 hd) (fun w' h => by have h : (fun w' => TA w' sb cb pb po vb vo (.slice (some ⟨mb, mo, none⟩) c.mountains.length cpm) (.slice (some ⟨vb, vo, none⟩) c.villages.length cpv) 0 p0 s v hd ∧ w'.cell? ⟨mb, mo + m, none⟩ = some (.int .i64 mt)) w' := h; have h0 := h.1.hd; go_simp) rfl ?_
          refine mix_pur2 rfl (fun K hK => ?_)
          go_simp
          first | refine ⟨_, fun _ => rfl, hK _ ?_⟩ | refine hK _ ?_
          clear hK K
          refine mix_load2 rfl rfl rfl (.slice (some ⟨mb, mo, none⟩) c.mountains.length cpm) (fun w' h => by have h : (fun w' => TA w' sb cb pb po vb vo (.slice (some ⟨mb, mo, none⟩) c.mountains.length cpm) (.slice (some ⟨vb, vo, none⟩) c.villages.length cpv) 0 p0 s v hd ∧ w'.cell? ⟨mb, mo + m, none⟩ = some (.int .i64 mt)) w' := h; have h0 := h.1.cm.cell 0; go_simp) rfl ?_
          refine mix_pur2 rfl (fun K hK => ?_)
          go_simp
          first | refine ⟨_, fun _ => rfl, hK _ ?_⟩ | refine hK _ ?_
          clear hK K
          refine mix_pur2 rfl (fun K hK => ?_)
          go_simp
          first | refine ⟨_, fun _ => rfl, hK _ ?_⟩ | refine hK _ ?_
          clear hK K
          refine mix_load2 rfl rfl rfl (.int .i64 mt) (fun w' h => by have h : (fun w' => TA w' sb cb pb po vb vo (.slice (some ⟨mb, mo, none⟩) c.mountains.length cpm) (.slice (some ⟨vb, vo, none⟩) c.villages.length cpv) 0 p0 s v hd ∧ w'.cell? ⟨mb, mo + m, none⟩ = some (.int .i64 mt)) w' := h; have h0 := h.2; go_simp) rfl ?_
          refine mix_pur2 rfl (fun K hK => ?_)
          go_simp
          first | refine ⟨_, fun _ => rfl, hK _ ?_⟩ | refine hK _ ?_
          clear hK K
          refine mix_pur2 rfl (fun K hK => ?_)
          go_simp
          first | refine ⟨_, fun _ => rfl, hK _ ?_⟩ | refine hK _ ?_
          clear hK K
          refine mix_pur2 rfl (fun K hK => ?_)
          go_simp
          first | refine ⟨_, fun _ => rfl, hK _ ?_⟩ | refine hK _ ?_
          clear hK K
          refine mix_pur2 rfl (fun K hK => ?_)
          go_simp
          first | refine ⟨_, fun _ => rfl, hK _ ?_⟩ | refine hK _ ?_
          clear hK K
          refine mix_done2 ?_
          rw [HOV.out, BW2.out]
          go_wp2_with fail
          go_roundw
          case rel => exact ⟨m + 1, by omega, by go_num, by rw [sumN, ← HU.out, ← HO.out, Int.add_assoc], bnx hBq (hqd.below _)⟩
          case measure => simp [intOf]; omega
        · obtain rfl : m = c.villages.length := by omega
          go_wp2_with fail
          go_roundw
          case rel => exact ⟨v + 1, by omega, by go_num, by rw [sumN, ← HT.out], hBq⟩
          case measure => simp [intOf]; omega
    · obtain rfl : v = c.villages.length := by omega
      rw [← HCY.out]
      obtain ⟨ALL, hALL⟩ : ∃ a, a = sumN c.villages.length fun y => overSum c (F.getD y []) := ⟨_, rfl⟩
      rw [← hALL]
      have HALL := Lib.hid hALL
      clear hALL
      go_wp2_with fail
      go_loopw [14, 17] (fun s14 s17 wr => ∃ y : Nat, y ≤ c.villages.length ∧ s17 = .int .i64 y ∧ s14 = .int .i64 (sumN y fun y => overSum c (F.getD y [])) ∧ Below w5.heap.size w5 wr) (fun _ s17 _ => c.villages.length - (intOf s17).toNat)
      case atStart => exact ⟨0, Nat.zero_le _, rfl, rfl, hB⟩
      case round =>
        rename World => wy
        clear hB
        obtain ⟨y, hy, rfl, rfl, hB⟩ := hrel
        by_cases hyn : y < c.villages.length
        · obtain ⟨rb, ro, rc, hrow, hrv⟩ := HYR.out y hyn
          have hFp := HF2.out y hyn
          obtain ⟨Fy, hFy⟩ : ∃ f, f = F.getD y [] := ⟨_, rfl⟩
          rw [← hFy] at hrow hrv hFp
          have hdv : divE c Fy = 0 := divE_zero HOK.out (by rw [← HVL.out]; exact hFp)
          have hov : ∀ w', Below w5.heap.size w5 w' → Calls Try.prog 53 #[.agg #[.slice (some ⟨mb, mo, none⟩) c.mountains.length cpm, .slice (some ⟨vb, vo, none⟩) c.villages.length cpv], .slice (some ⟨rb, ro, none⟩) c.villages.length rc] w' fun e w'' => ∃ v', e = .returned (.tuple #[v', .int .i64 0]) ∧ Ints (fun b => w'.heap.size ≤ b) w'' v' (overL c Fy) ∧ Below w'.heap.size w' w'' := by
            intro w' h'
            have := overR_c (HCM.out w' h') (hrow w' h').2
            rwa [hdv, overR, if_pos hdv] at this
          have hkl : (overL c Fy).length = c.villages.length := (overL_len c Fy).trans hFp.len
          have hkat : ∀ (v d : Nat), v < c.villages.length → Fy.getD v 0 = (d : Int) → (overL c Fy).getD v 0 = overV c v (d : Int) := fun v d hv he => by
            rw [List.getD_eq_getElem?_getD, List.getElem?_eq_getElem (by rw [hkl]; exact hv)]
            show (overL c Fy)[v]'(by rw [hkl]; exact hv) = _
            rw [overL_at, he]
          have hksum : sumI2 (overL c Fy) = overSum c Fy := rfl
          have hkb : ∀ x ∈ overL c Fy, 0 ≤ x ∧ x ≤ 1000 := fun x hx => by
            obtain ⟨j, hj, rfl⟩ := List.getElem_of_mem hx
            rw [overL_at]
            have := overV_bd HOK.out j (Fy.getD j 0)
            omega
          have HOV := Lib.hid hov
          have HKL := Lib.hid hkl
          have HKAT := Lib.hid hkat
          have HKS := Lib.hid hksum
          have HKB := Lib.hid hkb
          generalize overL c Fy = K at *
          clear hdv hov hkl hkat hksum hkb
          obtain ⟨CY, hCY⟩ : ∃ C, C = sumN y fun y => overSum c (F.getD y []) := ⟨_, rfl⟩
          have hcyb : 0 ≤ CY ∧ CY ≤ 6000 := by
            have hb : ∀ i < y, 0 ≤ overSum c (F.getD i []) ∧ overSum c (F.getD i []) ≤ 1000 := fun i hi => by
              rw [overSum_sumN, (HF2.out i (by omega)).len]
              have := sumN_le (f := fun v => overV c v ((F.getD i []).getD v 0)) (b := 60) (k := c.villages.length) fun j _ => (overV_bd HOK.out j _).2
              exact ⟨sumN_nonneg fun j _ => (overV_bd HOK.out j _).1, by omega⟩
            rw [hCY]
            have := sumN_le (f := fun y => overSum c (F.getD y [])) (b := 1000) (k := y) fun i hi => (hb i hi).2
            exact ⟨sumN_nonneg fun i hi => (hb i hi).1, by omega⟩
          rw [← hCY]
          have HCYC := Lib.hid hCY
          clear hCY
          have HFY := Lib.hid hFy
          have HFP := Lib.hid hFp
          have HRV := Lib.hid hrv
          clear hFy hFp hrv
          have hBd := bnx hB (((Qt.refl wy).drewN 1).below _)
          have hTA1 := HTA.out 0 0 (by omega) hN1
          obtain ⟨p0, hTA1⟩ : ∃ p0, ∀ w', Below w5.heap.size w5 w' → TA w' sb cb pb po vb vo (.slice (some ⟨mb, mo, none⟩) c.mountains.length cpm) (.slice (some ⟨vb, vo, none⟩) c.villages.length cpv) 0 p0 s 0 c.villages[0].herd := ⟨_, hTA1⟩
          go_wp2_with fail
          refine wp_region_mix2 (.one 0 (.pur 1 (.pur 2 (.pur 3 (.one 4 (.act 5 (.pur 6 (.pur 7 (.pur 8 (.pur 9 (.pur 10 .fin))))))))))) 5 (fun w' => Blk cb #[.slice (some ⟨mb, mo, none⟩) c.mountains.length cpm, .slice (some ⟨vb, vo, none⟩) c.villages.length cpv] 25 w' ∧ w'.cell? ⟨yb, yo + y, none⟩ = some (.slice (some ⟨rb, ro, none⟩) c.villages.length rc)) (fun _ => True) (by kernel_rfl) (by kernel_rfl) rfl (by kernel_rfl) ⟨(hTA1 _ hBd).cm, (hrow _ hBd).1⟩ (fun wd hqd _ => ?_)
          refine mix_load2 rfl rfl rfl (.agg #[.slice (some ⟨mb, mo, none⟩) c.mountains.length cpm, .slice (some ⟨vb, vo, none⟩) c.villages.length cpv]) (fun w' h => by have h : (fun w' => Blk cb #[.slice (some ⟨mb, mo, none⟩) c.mountains.length cpm, .slice (some ⟨vb, vo, none⟩) c.villages.length cpv] 25 w' ∧ w'.cell? ⟨yb, yo + y, none⟩ = some (.slice (some ⟨rb, ro, none⟩) c.villages.length rc)) w' := h; have h0 := h.1.cell 0; have h1 := h.1.cell 1; go_simp) rfl ?_
          refine mix_pur2 rfl (fun K hK => ?_)
          go_simp
          first | refine ⟨_, fun _ => rfl, hK _ ?_⟩ | refine hK _ ?_
          clear hK K
          refine mix_pur2 rfl (fun K hK => ?_)
          go_simp
          first | refine ⟨_, fun _ => rfl, hK _ ?_⟩ | refine hK _ ?_
          clear hK K
          refine mix_pur2 rfl (fun K hK => ?_)
          go_simp
          first | refine ⟨_, fun _ => rfl, hK _ ?_⟩ | refine hK _ ?_
          clear hK K
          refine mix_load2 rfl rfl rfl (.slice (some ⟨rb, ro, none⟩) c.villages.length rc) (fun w' h => by have h : (fun w' => Blk cb #[.slice (some ⟨mb, mo, none⟩) c.mountains.length cpm, .slice (some ⟨vb, vo, none⟩) c.villages.length cpv] 25 w' ∧ w'.cell? ⟨yb, yo + y, none⟩ = some (.slice (some ⟨rb, ro, none⟩) c.villages.length rc)) w' := h; have h0 := h.2; go_simp) rfl ?_
          refine mix_eff2 rfl true rfl (fun K hK => ?_)
          go_simp
          have hB6 := bnx hB (hqd.below wy.heap.size)
          refine (HOV.out _ hB6).mono ?_
          rintro e w7 ⟨vk, rfl, hk7, hB7⟩
          refine hK _ _ trivial ?_
          clear hK K
          refine mix_pur2 rfl (fun K hK => ?_)
          go_simp
          first | refine ⟨_, fun _ => rfl, hK _ ?_⟩ | refine hK _ ?_
          clear hK K
          refine mix_pur2 rfl (fun K hK => ?_)
          go_simp
          first | refine ⟨_, fun _ => rfl, hK _ ?_⟩ | refine hK _ ?_
          clear hK K
          refine mix_pur2 rfl (fun K hK => ?_)
          go_simp
          first | refine ⟨_, fun _ => rfl, hK _ ?_⟩ | refine hK _ ?_
          clear hK K
          refine mix_pur2 rfl (fun K hK => ?_)
          go_simp
          first | refine ⟨_, fun _ => rfl, hK _ ?_⟩ | refine hK _ ?_
          clear hK K
          refine mix_pur2 rfl (fun K hK => ?_)
          go_simp
          first | refine ⟨_, fun _ => rfl, hK _ ?_⟩ | refine hK _ ?_
          clear hK K
          refine mix_done2 ?_
          have hB8 := bnx hB6 hB7
          have hsk := hk7.shape
          rw [HKL.out] at hsk
          obtain ⟨ak, kc, rfl, _, _⟩ := hsk
          obtain ⟨kb, ko, rfl, -⟩ := hk7.addr (by rw [HKL.out]; exact hN1)
          have r0 := (hrow _ hB8).1
          have HROW := Lib.hid hrow
          clear hB hB6 hB7 hBd hTA1 HOV hrow
          go_wp2_with fail
          clear r0
          go_loopw [20] (fun s20 wv => ∃ v : Nat, v ≤ c.villages.length ∧ s20 = .int .i64 v ∧ Below w7.heap.size w7 wv) (fun s20 _ => c.villages.length - (intOf s20).toNat)
          case atStart => exact ⟨0, Nat.zero_le _, rfl, Below.refl _ _⟩
          case round =>
            rename World => wv
            obtain ⟨v, hv, rfl, hBv⟩ := hrel
            have hBw := bnx hB8 hBv
            by_cases hvn : v < c.villages.length
            · obtain ⟨d, hdn, hde, hdc⟩ := HRV.out v hvn
              have hdp : d < ps.length := by omega
              have hkv := HKAT.out v d hvn hde
              have hfd := HFED.out d v hdp hvn
              have hgr := fun w' => grazed_c (w := w') (hpk d hdp) hs (hvd v hvn)
              rw [hfd] at hgr
              have hTA1 := HTA.out d v hdp hvn
              generalize ps[d] = p at hgr hTA1
              generalize c.villages[v].herd = hd at hgr hTA1
              obtain ⟨kv, hkv2⟩ : ∃ k, k = overV c v (d : Int) := ⟨_, rfl⟩
              rw [← hkv2] at hgr hkv
              have hkcell : ∀ w', Below w7.heap.size w7 w' → w'.cell? ⟨kb, ko + v, none⟩ = some (.int .i64 kv) := fun w' h' => by
                have hvk : v < K.length := by rw [HKL.out]; exact hvn
                rw [(hk7.call h').cell v hvk, ← hkv, List.getD_eq_getElem?_getD, List.getElem?_eq_getElem hvk]
                rfl
              obtain ⟨fd, hfd2⟩ : ∃ f, f = decide (kv = 0) := ⟨_, rfl⟩
              rw [← hfd2] at hgr
              have HFD2 := Lib.hid hfd2
              have HGR := Lib.hid hgr
              have HKC := Lib.hid hkcell
              have hBd := bnx hBw (((Qt.refl wv).drewN 1).below _)
              have r0 := (HROW.out _ hBw).1
              have r1 := hdc _ hBw
              have bd0 : decide ((d : Int) < 0) = false := decide_eq_false (by omega)
              have bd1 : decide ((d : Int) ≥ (c.villages.length : Int)) = false := decide_eq_false (by omega)
              clear hgr hkcell hkv2 hfd2 hfd hkv hde
              go_wp2_with fail
              clear r0 r1 bd0 bd1
              refine wp_region_mix2 (.pur 0 (.pur 1 (.pur 2 (.pur 3 (.one 4 (.pur 5 (.pur 6 (.one 7 (.pur 8 (.one 9 (.one 10 (.pur 11 (.one 12 (.pur 13 (.pur 14 (.pur 15 (.one 16 (.act 17 (.pur 18 (.pur 19 (.pur 20 (.pur 21 (.pur 22 .fin))))))))))))))))))))))) 17 (fun w' => w'.cell? ⟨yb, yo + y, none⟩ = some (.slice (some ⟨rb, ro, none⟩) c.villages.length rc) ∧ w'.cell? ⟨rb, ro + v, none⟩ = some (.int .i64 (d : Int)) ∧ TA w' sb cb pb po vb vo (.slice (some ⟨mb, mo, none⟩) c.mountains.length cpm) (.slice (some ⟨vb, vo, none⟩) c.villages.length cpv) d p s v hd) (fun _ => True) (by kernel_rfl) (by kernel_rfl) rfl (by kernel_rfl) ⟨(HROW.out _ hBd).1, hdc _ hBd, hTA1 _ hBd⟩ (fun wd hqd _ => ?_)
              refine mix_pur2 rfl (fun K hK => ?_)
              go_simp
              first | refine ⟨_, fun _ => rfl, hK _ ?_⟩ | refine hK _ ?_
              clear hK K
              refine mix_pur2 rfl (fun K hK => ?_)
              go_simp
              first | refine ⟨_, fun _ => rfl, hK _ ?_⟩ | refine hK _ ?_
              clear hK K
              refine mix_pur2 rfl (fun K hK => ?_)
              go_simp
              first | refine ⟨_, fun _ => rfl, hK _ ?_⟩ | refine hK _ ?_
              clear hK K
              refine mix_pur2 rfl (fun K hK => ?_)
              go_simp
              first | refine ⟨_, fun _ => rfl, hK _ ?_⟩ | refine hK _ ?_
              clear hK K
              refine mix_load2 rfl rfl rfl (.slice (some ⟨rb, ro, none⟩) c.villages.length rc) (fun w' h => by have h : (fun w' => w'.cell? ⟨yb, yo + y, none⟩ = some (.slice (some ⟨rb, ro, none⟩) c.villages.length rc) ∧ w'.cell? ⟨rb, ro + v, none⟩ = some (.int .i64 (d : Int)) ∧ TA w' sb cb pb po vb vo (.slice (some ⟨mb, mo, none⟩) c.mountains.length cpm) (.slice (some ⟨vb, vo, none⟩) c.villages.length cpv) d p s v hd) w' := h; have h0 := h.1; go_simp) rfl ?_
              refine mix_pur2 rfl (fun K hK => ?_)
              go_simp
              first | refine ⟨_, fun _ => rfl, hK _ ?_⟩ | refine hK _ ?_
              clear hK K
              refine mix_pur2 rfl (fun K hK => ?_)
              go_simp
              first | refine ⟨_, fun _ => rfl, hK _ ?_⟩ | refine hK _ ?_
              clear hK K
              refine mix_load2 rfl rfl rfl (.int .i64 (d : Int)) (fun w' h => by have h : (fun w' => w'.cell? ⟨yb, yo + y, none⟩ = some (.slice (some ⟨rb, ro, none⟩) c.villages.length rc) ∧ w'.cell? ⟨rb, ro + v, none⟩ = some (.int .i64 (d : Int)) ∧ TA w' sb cb pb po vb vo (.slice (some ⟨mb, mo, none⟩) c.mountains.length cpm) (.slice (some ⟨vb, vo, none⟩) c.villages.length cpv) d p s v hd) w' := h; have h0 := h.2.1; go_simp) rfl ?_
              refine mix_pur2 rfl (fun K hK => ?_)
              go_simp
              first | refine ⟨_, fun _ => rfl, hK _ ?_⟩ | refine hK _ ?_
              clear hK K
              refine mix_load2 rfl rfl rfl (.agg #[.int .i64 p.grass, .int .i64 p.bears, .int .i64 p.dry, .int .i64 p.wet, .int .i64 p.stub, .int .i64 p.sleep]) (fun w' h => by have h : (fun w' => w'.cell? ⟨yb, yo + y, none⟩ = some (.slice (some ⟨rb, ro, none⟩) c.villages.length rc) ∧ w'.cell? ⟨rb, ro + v, none⟩ = some (.int .i64 (d : Int)) ∧ TA w' sb cb pb po vb vo (.slice (some ⟨mb, mo, none⟩) c.mountains.length cpm) (.slice (some ⟨vb, vo, none⟩) c.villages.length cpv) d p s v hd) w' := h; have h0 := h.2.2.p0; have h1 := h.2.2.p1; have h2 := h.2.2.p2; have h3 := h.2.2.p3; have h4 := h.2.2.p4; have h5 := h.2.2.p5; go_simp) rfl ?_
              refine mix_load2 rfl rfl rfl (.agg #[.int .i64 s.days, .int .i64 s.drought, .int .i64 s.flood]) (fun w' h => by have h : (fun w' => w'.cell? ⟨yb, yo + y, none⟩ = some (.slice (some ⟨rb, ro, none⟩) c.villages.length rc) ∧ w'.cell? ⟨rb, ro + v, none⟩ = some (.int .i64 (d : Int)) ∧ TA w' sb cb pb po vb vo (.slice (some ⟨mb, mo, none⟩) c.mountains.length cpm) (.slice (some ⟨vb, vo, none⟩) c.villages.length cpv) d p s v hd) w' := h; have h0 := h.2.2.sk.cell 0; have h1 := h.2.2.sk.cell 1; have h2 := h.2.2.sk.cell 2; go_simp) rfl ?_
              refine mix_pur2 rfl (fun K hK => ?_)
              go_simp
              first | refine ⟨_, fun _ => rfl, hK _ ?_⟩ | refine hK _ ?_
              clear hK K
              refine mix_load2 rfl rfl rfl (.slice (some ⟨vb, vo, none⟩) c.villages.length cpv) (fun w' h => by have h : (fun w' => w'.cell? ⟨yb, yo + y, none⟩ = some (.slice (some ⟨rb, ro, none⟩) c.villages.length rc) ∧ w'.cell? ⟨rb, ro + v, none⟩ = some (.int .i64 (d : Int)) ∧ TA w' sb cb pb po vb vo (.slice (some ⟨mb, mo, none⟩) c.mountains.length cpm) (.slice (some ⟨vb, vo, none⟩) c.villages.length cpv) d p s v hd) w' := h; have h0 := h.2.2.cm.cell 1; go_simp) rfl ?_
              refine mix_pur2 rfl (fun K hK => ?_)
              go_simp
              first | refine ⟨_, fun _ => rfl, hK _ ?_⟩ | refine hK _ ?_
              clear hK K
              refine mix_pur2 rfl (fun K hK => ?_)
              go_simp
              first | refine ⟨_, fun _ => rfl, hK _ ?_⟩ | refine hK _ ?_
              clear hK K
              refine mix_pur2 rfl (fun K hK => ?_)
              go_simp
              first | refine ⟨_, fun _ => rfl, hK _ ?_⟩ | refine hK _ ?_
              clear hK K
              refine mix_load2 rfl rfl rfl (.int .i64 hd) (fun w' h => by have h : (fun w' => w'.cell? ⟨yb, yo + y, none⟩ = some (.slice (some ⟨rb, ro, none⟩) c.villages.length rc) ∧ w'.cell? ⟨rb, ro + v, none⟩ = some (.int .i64 (d : Int)) ∧ TA w' sb cb pb po vb vo (.slice (some ⟨mb, mo, none⟩) c.mountains.length cpm) (.slice (some ⟨vb, vo, none⟩) c.villages.length cpv) d p s v hd) w' := h; have h0 := h.2.2.hd; go_simp) rfl ?_
              refine mix_eff2 rfl true rfl (fun K hK => ?_)
              go_simp
              refine (HGR.out _).mono ?_
              rintro e w9 ⟨rfl, hB9⟩
              refine hK _ _ trivial ?_
              clear hK K
              refine mix_pur2 rfl (fun K hK => ?_)
              go_simp
              first | refine ⟨_, fun _ => rfl, hK _ ?_⟩ | refine hK _ ?_
              clear hK K
              refine mix_pur2 rfl (fun K hK => ?_)
              go_simp
              first | refine ⟨_, fun _ => rfl, hK _ ?_⟩ | refine hK _ ?_
              clear hK K
              refine mix_pur2 rfl (fun K hK => ?_)
              go_simp
              first | refine ⟨_, fun _ => rfl, hK _ ?_⟩ | refine hK _ ?_
              clear hK K
              refine mix_pur2 rfl (fun K hK => ?_)
              go_simp
              first | refine ⟨_, fun _ => rfl, hK _ ?_⟩ | refine hK _ ?_
              clear hK K
              refine mix_pur2 rfl (fun K hK => ?_)
              go_simp
              first | refine ⟨_, fun _ => rfl, hK _ ?_⟩ | refine hK _ ?_
              clear hK K
              refine mix_done2 ?_
              have hB10 := bnx hBv (bnx (hqd.below wv.heap.size) hB9)
              have q0 := HKC.out _ hB10
              cases fd with
              | true =>
                have hk0 : kv = 0 := of_decide_eq_true HFD2.out.symm
                rw [hk0] at q0
                clear hk0
                go_wp2_with fail
                go_roundw
                case rel => exact ⟨v + 1, by omega, by go_num, hB10⟩
                case measure => simp [intOf]; omega
              | false =>
                have hk0 : ¬ kv = 0 := of_decide_eq_false HFD2.out.symm
                have bk1 : (kv == 0) = false := by simpa using hk0
                have bk2 : decide (kv = 0) = false := decide_eq_false hk0
                go_wp2_with fail
                go_roundw
                case rel => exact ⟨v + 1, by omega, by go_num, hB10⟩
                case measure => simp [intOf]; omega
            · obtain rfl : v = c.villages.length := by omega
              have hk9 := hk7.call hBv
              have htot := total_c hk9 (by rw [HKL.out]; omega) HKB.out
              have hSb : 0 ≤ sumI2 K ∧ sumI2 K ≤ 3000 := by
                have := sumI2_bd K 0 HKB.out
                rw [HKL.out] at this
                unfold sumI2
                omega
              have HTOT := Lib.hid htot
              have bw1 : IntKind.i64.wrap (CY + sumI2 K) = CY + sumI2 K := IntWalk.i64_in _ (by omega)
              clear htot
              go_wp2_with fail
              refine HTOT.out.mono ?_
              rintro e w9 ⟨rfl, hq9⟩
              go_wp2_with fail
              go_roundw
              case rel => exact ⟨y + 1, by omega, by go_num, by rw [sumN, ← HCYC.out, HKS.out, HFY.out], bnx hBw (hq9.below _)⟩
              case measure => simp [intOf]; omega
        · obtain rfl : y = c.villages.length := by omega
          rw [← HALL.out]
          have hob : ∀ (v m : Nat), 0 ≤ overV c v (m : Int) := fun v m => (overV_bd HOK.out v m).1
          clear HALL HCY
          go_wp2_with fail
          go_loopw [23, 24] (fun s23 s24 wr => ∃ v : Nat, v ≤ c.villages.length ∧ s24 = .int .i64 v ∧ ∃ b : Bool, s23 = .bool b ∧ (b = true ↔ ∀ i < v, overV c i (B.getD i 0) = 0) ∧ Below w5.heap.size w5 wr) (fun _ s24 _ => c.villages.length - (intOf s24).toNat)
          case atStart => exact ⟨0, Nat.zero_le _, rfl, true, rfl, ⟨fun _ i hi => by omega, fun _ => rfl⟩, hB⟩
          case round =>
            rename World => wv
            clear hB
            obtain ⟨v, hv, rfl, b, rfl, hbi, hBw⟩ := hrel
            have HBI := Lib.hid hbi
            clear hbi
            by_cases hvn : v < c.villages.length
            · obtain ⟨d, hdn, hde, hdc⟩ := HBV.out v hvn
              have hdp : d < ps.length := by omega
              have hfd := HFED.out d v hdp hvn
              have hgr := fun w' => grazed_c (w := w') (hpk d hdp) hs (hvd v hvn)
              rw [hfd] at hgr
              have hTA1 := HTA.out d v hdp hvn
              generalize ps[d] = p at hgr hTA1
              generalize c.villages[v].herd = hd at hgr hTA1
              obtain ⟨fd, hfd2⟩ : ∃ f, f = decide (overV c v (d : Int) = 0) := ⟨_, rfl⟩
              rw [← hfd2] at hgr
              have HGR := Lib.hid hgr
              have HFD2 := Lib.hid hfd2
              have hBd := bnx hBw (((Qt.refl wv).drewN 1).below _)
              clear hgr hfd hfd2
              have r1 := hdc _ hBw
              have bd0 : decide ((d : Int) < 0) = false := decide_eq_false (by omega)
              have bd1 : decide ((d : Int) ≥ (c.villages.length : Int)) = false := decide_eq_false (by omega)
              have HDE := Lib.hid hde
              clear hde
              go_wp2_with fail
              clear r1 bd0 bd1
              refine wp_region_mix2 (.pur 0 (.pur 1 (.pur 2 (.pur 3 (.one 4 (.pur 5 (.one 6 (.one 7 (.pur 8 (.one 9 (.pur 10 (.pur 11 (.pur 12 (.one 13 (.act 14 (.pur 15 (.pur 16 (.pur 17 (.pur 18 (.pur 19 .fin)))))))))))))))))))) 14 (fun w' => w'.cell? ⟨bb, bo + v, none⟩ = some (.int .i64 (d : Int)) ∧ TA w' sb cb pb po vb vo (.slice (some ⟨mb, mo, none⟩) c.mountains.length cpm) (.slice (some ⟨vb, vo, none⟩) c.villages.length cpv) d p s v hd) (fun _ => True) (by kernel_rfl) (by kernel_rfl) rfl (by kernel_rfl) ⟨hdc _ hBd, hTA1 _ hBd⟩ (fun wd hqd _ => ?_)
              refine mix_pur2 rfl (fun K hK => ?_)
              go_simp
              first | refine ⟨_, fun _ => rfl, hK _ ?_⟩ | refine hK _ ?_
              clear hK K
              refine mix_pur2 rfl (fun K hK => ?_)
              go_simp
              first | refine ⟨_, fun _ => rfl, hK _ ?_⟩ | refine hK _ ?_
              clear hK K
              refine mix_pur2 rfl (fun K hK => ?_)
              go_simp
              first | refine ⟨_, fun _ => rfl, hK _ ?_⟩ | refine hK _ ?_
              clear hK K
              refine mix_pur2 rfl (fun K hK => ?_)
              go_simp
              first | refine ⟨_, fun _ => rfl, hK _ ?_⟩ | refine hK _ ?_
              clear hK K
              refine mix_load2 rfl rfl rfl (.int .i64 (d : Int)) (fun w' h => by have h : (fun w' => w'.cell? ⟨bb, bo + v, none⟩ = some (.int .i64 (d : Int)) ∧ TA w' sb cb pb po vb vo (.slice (some ⟨mb, mo, none⟩) c.mountains.length cpm) (.slice (some ⟨vb, vo, none⟩) c.villages.length cpv) d p s v hd) w' := h; have h0 := h.1; go_simp) rfl ?_
              refine mix_pur2 rfl (fun K hK => ?_)
              go_simp
              first | refine ⟨_, fun _ => rfl, hK _ ?_⟩ | refine hK _ ?_
              clear hK K
              refine mix_load2 rfl rfl rfl (.agg #[.int .i64 p.grass, .int .i64 p.bears, .int .i64 p.dry, .int .i64 p.wet, .int .i64 p.stub, .int .i64 p.sleep]) (fun w' h => by have h : (fun w' => w'.cell? ⟨bb, bo + v, none⟩ = some (.int .i64 (d : Int)) ∧ TA w' sb cb pb po vb vo (.slice (some ⟨mb, mo, none⟩) c.mountains.length cpm) (.slice (some ⟨vb, vo, none⟩) c.villages.length cpv) d p s v hd) w' := h; have h0 := h.2.p0; have h1 := h.2.p1; have h2 := h.2.p2; have h3 := h.2.p3; have h4 := h.2.p4; have h5 := h.2.p5; go_simp) rfl ?_
              refine mix_load2 rfl rfl rfl (.agg #[.int .i64 s.days, .int .i64 s.drought, .int .i64 s.flood]) (fun w' h => by have h : (fun w' => w'.cell? ⟨bb, bo + v, none⟩ = some (.int .i64 (d : Int)) ∧ TA w' sb cb pb po vb vo (.slice (some ⟨mb, mo, none⟩) c.mountains.length cpm) (.slice (some ⟨vb, vo, none⟩) c.villages.length cpv) d p s v hd) w' := h; have h0 := h.2.sk.cell 0; have h1 := h.2.sk.cell 1; have h2 := h.2.sk.cell 2; go_simp) rfl ?_
              refine mix_pur2 rfl (fun K hK => ?_)
              go_simp
              first | refine ⟨_, fun _ => rfl, hK _ ?_⟩ | refine hK _ ?_
              clear hK K
              refine mix_load2 rfl rfl rfl (.slice (some ⟨vb, vo, none⟩) c.villages.length cpv) (fun w' h => by have h : (fun w' => w'.cell? ⟨bb, bo + v, none⟩ = some (.int .i64 (d : Int)) ∧ TA w' sb cb pb po vb vo (.slice (some ⟨mb, mo, none⟩) c.mountains.length cpm) (.slice (some ⟨vb, vo, none⟩) c.villages.length cpv) d p s v hd) w' := h; have h0 := h.2.cm.cell 1; go_simp) rfl ?_
              refine mix_pur2 rfl (fun K hK => ?_)
              go_simp
              first | refine ⟨_, fun _ => rfl, hK _ ?_⟩ | refine hK _ ?_
              clear hK K
              refine mix_pur2 rfl (fun K hK => ?_)
              go_simp
              first | refine ⟨_, fun _ => rfl, hK _ ?_⟩ | refine hK _ ?_
              clear hK K
              refine mix_pur2 rfl (fun K hK => ?_)
              go_simp
              first | refine ⟨_, fun _ => rfl, hK _ ?_⟩ | refine hK _ ?_
              clear hK K
              refine mix_load2 rfl rfl rfl (.int .i64 hd) (fun w' h => by have h : (fun w' => w'.cell? ⟨bb, bo + v, none⟩ = some (.int .i64 (d : Int)) ∧ TA w' sb cb pb po vb vo (.slice (some ⟨mb, mo, none⟩) c.mountains.length cpm) (.slice (some ⟨vb, vo, none⟩) c.villages.length cpv) d p s v hd) w' := h; have h0 := h.2.hd; go_simp) rfl ?_
              refine mix_eff2 rfl true rfl (fun K hK => ?_)
              go_simp
              refine (HGR.out _).mono ?_
              rintro e w9 ⟨rfl, hB9⟩
              refine hK _ _ trivial ?_
              clear hK K
              refine mix_pur2 rfl (fun K hK => ?_)
              go_simp
              first | refine ⟨_, fun _ => rfl, hK _ ?_⟩ | refine hK _ ?_
              clear hK K
              refine mix_pur2 rfl (fun K hK => ?_)
              go_simp
              first | refine ⟨_, fun _ => rfl, hK _ ?_⟩ | refine hK _ ?_
              clear hK K
              refine mix_pur2 rfl (fun K hK => ?_)
              go_simp
              first | refine ⟨_, fun _ => rfl, hK _ ?_⟩ | refine hK _ ?_
              clear hK K
              refine mix_pur2 rfl (fun K hK => ?_)
              go_simp
              first | refine ⟨_, fun _ => rfl, hK _ ?_⟩ | refine hK _ ?_
              clear hK K
              refine mix_pur2 rfl (fun K hK => ?_)
              go_simp
              first | refine ⟨_, fun _ => rfl, hK _ ?_⟩ | refine hK _ ?_
              clear hK K
              refine mix_done2 ?_
              have hB10 := bnx hBw (bnx (hqd.below wv.heap.size) hB9)
              have hnx : (b && fd) = true ↔ ∀ i < v + 1, overV c i (B.getD i 0) = 0 := by
                rw [Bool.and_eq_true, HBI.out, HFD2.out, decide_eq_true_eq]
                constructor
                · rintro ⟨h1, h2⟩ i hi
                  by_cases e : i = v
                  · rw [e, HDE.out]; exact h2
                  · exact h1 i (by omega)
                · intro h
                  exact ⟨fun i hi => h i (by omega), by rw [← HDE.out]; exact h v (by omega)⟩
              have HNX := Lib.hid hnx
              clear hnx
              cases b with
              | true =>
                go_wp2_with fail
                go_roundw
                case rel => exact ⟨v + 1, by omega, by go_num, fd, rfl, by simpa using HNX.out, hB10⟩
                case measure => simp [intOf]; omega
              | false =>
                go_wp2_with fail
                go_roundw
                case rel => exact ⟨v + 1, by omega, by go_num, false, rfl, by simpa using HNX.out, hB10⟩
                case measure => simp [intOf]; omega
            · obtain rfl : v = c.villages.length := by omega
              have hR0 : R = 0 ↔ b = true := by
                rw [HR.out, overSum_sumN, HBN.out, HBI.out]
                refine sumN_zero_iff fun i hi => ?_
                obtain ⟨d, -, hde, -⟩ := HBV.out i hi
                rw [hde]
                exact hob i d
              have HR0 := Lib.hid hR0
              clear hR0
              cases b with
              | true =>
                obtain rfl : R = 0 := HR0.out.2 rfl
                go_wp2_with (go_at_call 56; refine (shorn_c _).mono ?_; rintro e wz ⟨rfl, hBz⟩)
                go_ret
                exact ⟨rfl, bnx (bnx hT5 hBw) hBz⟩
              | false =>
                have hRn : ¬ R = 0 := fun e => absurd (HR0.out.1 e) (by decide)
                have bR1 : (R == 0) = false := by simpa using hRn
                have bR2 : decide (R = 0) = false := decide_eq_false hRn
                have HRN := Lib.hid hRn
                clear hRn
                have hwm := @topW_mem c.villages.length c.villages.length
                have hwc := words_c (n := c.villages.length) (by omega) c.villages.length (by omega) wv
                have hor : ∀ l ∈ wordsL c.villages.length c.villages.length, allN l c.villages.length = true → l ∈ divs c.villages.length := fun l hl ha => by
                  rw [divs, ← (cyc_all _ (by omega)).1]
                  exact List.mem_filter.2 ⟨hl, ha⟩
                generalize wordsL c.villages.length c.villages.length = W at hwm hwc hor
                have HWM := Lib.hid hwm
                have HWC := Lib.hid hwc
                have HOR := Lib.hid hor
                clear hwm hwc hor
                go_wp2_with fail
                refine HWC.out.mono ?_
                rintro e w8 ⟨vw, rfl, hW, hB8⟩
                have hBw8 := bnx hBw hB8
                obtain ⟨aw, cw, rfl, _, _⟩ := hW.shape
                have hwl := hW.len
                clear HWC hBw hB8 bR1 bR2
                go_wp2_with fail
                go_loopw [28] (fun s28 wr => ∃ i : Nat, i ≤ W.length ∧ s28 = .int .i64 i ∧ Below w8.heap.size w8 wr) (fun s28 _ => W.length - (intOf s28).toNat)
                case atStart => exact ⟨0, Nat.zero_le _, rfl, Below.refl _ _⟩
                case round =>
                  rename World => wi
                  obtain ⟨i, hi, rfl, hBi⟩ := hrel
                  by_cases hiw : i < W.length
                  · obtain ⟨gb, go, rfl, -, hgb⟩ := hW.addr (by omega)
                    obtain ⟨ao, rc, q1, q2⟩ := hW.row i hiw
                    obtain ⟨m1, m2⟩ := HWM.out W[i] (List.getElem_mem hiw)
                    have hlW := List.getElem_mem hiw
                    obtain ⟨l, hl⟩ : ∃ l, l = W[i] := ⟨_, rfl⟩
                    rw [← hl] at q1 q2 m1 m2 hlW
                    rw [m1] at q1 q2
                    have HIW := Lib.hid hiw
                    obtain ⟨rb, ro, rfl, -⟩ := q2.addr (by rw [m1]; exact hN1)
                    have hrow : ∀ w', Below w8.heap.size w8 w' → w'.cell? ⟨gb, go + i, none⟩ = some (.slice (some ⟨rb, ro, none⟩) c.villages.length rc) := fun w' h' => (World.cell?_of_block (h'.block gb hgb)).trans q1
                    have hrd : ∀ v < c.villages.length, ∃ d : Nat, d < c.villages.length ∧ l.getD v 0 = (d : Int) ∧ ∀ w', Below w8.heap.size w8 w' → w'.cell? ⟨rb, ro + v, none⟩ = some (.int .i64 (d : Int)) := fun v hv => by
                      have hv2 : v < l.length := by rw [m1]; exact hv
                      have hmm := m2 l[v] (List.getElem_mem hv2)
                      refine ⟨l[v].toNat, by omega, ?_, fun w' h' => ?_⟩
                      · rw [List.getD_eq_getElem?_getD, List.getElem?_eq_getElem hv2]
                        simp only [Option.getD_some]
                        omega
                      · rw [(q2.call h').cell v hv2]
                        congr 2
                        omega
                    have hno : (∀ v < c.villages.length, overV c v (l.getD v 0) = 0) → (∀ v < c.villages.length, 0 ≤ placeOf l (v : Int)) → False := fun h1 h2 => by
                      have h3 := HOR.out l hlW (List.all_eq_true.2 fun v hv => decide_eq_true (h2 v (List.mem_range.1 hv)))
                      have h4 := HBL.out l h3
                      have h5 : overSum c l = 0 := by
                        rw [overSum_sumN, m1]
                        refine (sumN_zero_iff fun j hj => ?_).2 h1
                        exact (overV_bd HOK.out j _).1
                      have h6 : 0 ≤ R := by
                        rw [HR.out, overSum_sumN]
                        exact sumN_nonneg fun j _ => (overV_bd HOK.out j _).1
                      exact HRN.out (by omega)
                    have HROW := Lib.hid hrow
                    have HRD := Lib.hid hrd
                    have HNO := Lib.hid hno
                    have HM1 := Lib.hid m1
                    clear hl m1 m2 q1 hrow hrd hno hlW
                    go_wp2_with fail
                    go_loopw [29, 30, 31] (fun s29 s30 s31 wv => ∃ v : Nat, v ≤ c.villages.length ∧ s31 = .int .i64 v ∧ ∃ b1 b2 : Bool, s29 = .bool b1 ∧ s30 = .bool b2 ∧ (b1 = true → ∀ j < v, overV c j (l.getD j 0) = 0) ∧ (b2 = true → ∀ j < v, 0 ≤ placeOf l (j : Int)) ∧ Below w8.heap.size w8 wv) (fun _ _ s31 _ => c.villages.length - (intOf s31).toNat)
                    case atStart => exact ⟨0, Nat.zero_le _, rfl, true, true, rfl, rfl, fun _ j hj => by omega, fun _ j hj => by omega, hBi⟩
                    case round =>
                      rename World => wv
                      obtain ⟨v, hv, rfl, b1, b2, rfl, rfl, hb1, hb2, hBv⟩ := hrel
                      have HB1 := Lib.hid hb1
                      have HB2 := Lib.hid hb2
                      clear hb1 hb2
                      by_cases hvn : v < c.villages.length
                      · obtain ⟨d, hdn, hde, hdc⟩ := HRD.out v hvn
                        have hBw := bnx hBw8 hBv
                        have hdp : d < ps.length := by omega
                        have hfd := HFED.out d v hdp hvn
                        have hgr := fun w' => grazed_c (w := w') (hpk d hdp) hs (hvd v hvn)
                        rw [hfd] at hgr
                        have hTA1 := HTA.out d v hdp hvn
                        generalize ps[d] = p at hgr hTA1
                        generalize c.villages[v].herd = hd at hgr hTA1
                        obtain ⟨fd, hfd2⟩ : ∃ f, f = decide (overV c v (d : Int) = 0) := ⟨_, rfl⟩
                        rw [← hfd2] at hgr
                        have HGR := Lib.hid hgr
                        have HFD2 := Lib.hid hfd2
                        have hBd := bnx hBw (((Qt.refl wv).drewN 1).below _)
                        clear hgr hfd hfd2
                        have hBe := bnx hBv (((Qt.refl wv).drewN 1).below _)
                        have HDE := Lib.hid hde
                        clear hde
                        go_wp2_with fail
                        refine wp_region_mix2 (.pur 0 (.pur 1 (.pur 2 (.pur 3 (.one 4 (.pur 5 (.pur 6 (.one 7 (.pur 8 (.one 9 (.one 10 (.pur 11 (.one 12 (.pur 13 (.pur 14 (.pur 15 (.one 16 (.act 17 (.pur 18 (.pur 19 (.pur 20 (.pur 21 (.pur 22 .fin))))))))))))))))))))))) 17 (fun w' => w'.cell? ⟨gb, go + i, none⟩ = some (.slice (some ⟨rb, ro, none⟩) c.villages.length rc) ∧ w'.cell? ⟨rb, ro + v, none⟩ = some (.int .i64 (d : Int)) ∧ TA w' sb cb pb po vb vo (.slice (some ⟨mb, mo, none⟩) c.mountains.length cpm) (.slice (some ⟨vb, vo, none⟩) c.villages.length cpv) d p s v hd) (fun _ => True) (by kernel_rfl) (by kernel_rfl) rfl (by kernel_rfl) ⟨HROW.out _ hBe, hdc _ hBe, hTA1 _ hBd⟩ (fun wd hqd _ => ?_)
                        refine mix_pur2 rfl (fun K hK => ?_)
                        go_simp
                        first | refine ⟨_, fun _ => rfl, hK _ ?_⟩ | refine hK _ ?_
                        clear hK K
                        refine mix_pur2 rfl (fun K hK => ?_)
                        go_simp
                        first | refine ⟨_, fun _ => rfl, hK _ ?_⟩ | refine hK _ ?_
                        clear hK K
                        refine mix_pur2 rfl (fun K hK => ?_)
                        go_simp
                        first | refine ⟨_, fun _ => rfl, hK _ ?_⟩ | refine hK _ ?_
                        clear hK K
                        refine mix_pur2 rfl (fun K hK => ?_)
                        go_simp
                        first | refine ⟨_, fun _ => rfl, hK _ ?_⟩ | refine hK _ ?_
                        clear hK K
                        refine mix_load2 rfl rfl rfl (.slice (some ⟨rb, ro, none⟩) c.villages.length rc) (fun w' h => by have h : (fun w' => w'.cell? ⟨gb, go + i, none⟩ = some (.slice (some ⟨rb, ro, none⟩) c.villages.length rc) ∧ w'.cell? ⟨rb, ro + v, none⟩ = some (.int .i64 (d : Int)) ∧ TA w' sb cb pb po vb vo (.slice (some ⟨mb, mo, none⟩) c.mountains.length cpm) (.slice (some ⟨vb, vo, none⟩) c.villages.length cpv) d p s v hd) w' := h; have h0 := h.1; go_simp) rfl ?_
                        refine mix_pur2 rfl (fun K hK => ?_)
                        go_simp
                        first | refine ⟨_, fun _ => rfl, hK _ ?_⟩ | refine hK _ ?_
                        clear hK K
                        refine mix_pur2 rfl (fun K hK => ?_)
                        go_simp
                        first | refine ⟨_, fun _ => rfl, hK _ ?_⟩ | refine hK _ ?_
                        clear hK K
                        refine mix_load2 rfl rfl rfl (.int .i64 (d : Int)) (fun w' h => by have h : (fun w' => w'.cell? ⟨gb, go + i, none⟩ = some (.slice (some ⟨rb, ro, none⟩) c.villages.length rc) ∧ w'.cell? ⟨rb, ro + v, none⟩ = some (.int .i64 (d : Int)) ∧ TA w' sb cb pb po vb vo (.slice (some ⟨mb, mo, none⟩) c.mountains.length cpm) (.slice (some ⟨vb, vo, none⟩) c.villages.length cpv) d p s v hd) w' := h; have h0 := h.2.1; go_simp) rfl ?_
                        refine mix_pur2 rfl (fun K hK => ?_)
                        go_simp
                        first | refine ⟨_, fun _ => rfl, hK _ ?_⟩ | refine hK _ ?_
                        clear hK K
                        refine mix_load2 rfl rfl rfl (.agg #[.int .i64 p.grass, .int .i64 p.bears, .int .i64 p.dry, .int .i64 p.wet, .int .i64 p.stub, .int .i64 p.sleep]) (fun w' h => by have h : (fun w' => w'.cell? ⟨gb, go + i, none⟩ = some (.slice (some ⟨rb, ro, none⟩) c.villages.length rc) ∧ w'.cell? ⟨rb, ro + v, none⟩ = some (.int .i64 (d : Int)) ∧ TA w' sb cb pb po vb vo (.slice (some ⟨mb, mo, none⟩) c.mountains.length cpm) (.slice (some ⟨vb, vo, none⟩) c.villages.length cpv) d p s v hd) w' := h; have h0 := h.2.2.p0; have h1 := h.2.2.p1; have h2 := h.2.2.p2; have h3 := h.2.2.p3; have h4 := h.2.2.p4; have h5 := h.2.2.p5; go_simp) rfl ?_
                        refine mix_load2 rfl rfl rfl (.agg #[.int .i64 s.days, .int .i64 s.drought, .int .i64 s.flood]) (fun w' h => by have h : (fun w' => w'.cell? ⟨gb, go + i, none⟩ = some (.slice (some ⟨rb, ro, none⟩) c.villages.length rc) ∧ w'.cell? ⟨rb, ro + v, none⟩ = some (.int .i64 (d : Int)) ∧ TA w' sb cb pb po vb vo (.slice (some ⟨mb, mo, none⟩) c.mountains.length cpm) (.slice (some ⟨vb, vo, none⟩) c.villages.length cpv) d p s v hd) w' := h; have h0 := h.2.2.sk.cell 0; have h1 := h.2.2.sk.cell 1; have h2 := h.2.2.sk.cell 2; go_simp) rfl ?_
                        refine mix_pur2 rfl (fun K hK => ?_)
                        go_simp
                        first | refine ⟨_, fun _ => rfl, hK _ ?_⟩ | refine hK _ ?_
                        clear hK K
                        refine mix_load2 rfl rfl rfl (.slice (some ⟨vb, vo, none⟩) c.villages.length cpv) (fun w' h => by have h : (fun w' => w'.cell? ⟨gb, go + i, none⟩ = some (.slice (some ⟨rb, ro, none⟩) c.villages.length rc) ∧ w'.cell? ⟨rb, ro + v, none⟩ = some (.int .i64 (d : Int)) ∧ TA w' sb cb pb po vb vo (.slice (some ⟨mb, mo, none⟩) c.mountains.length cpm) (.slice (some ⟨vb, vo, none⟩) c.villages.length cpv) d p s v hd) w' := h; have h0 := h.2.2.cm.cell 1; go_simp) rfl ?_
                        refine mix_pur2 rfl (fun K hK => ?_)
                        go_simp
                        first | refine ⟨_, fun _ => rfl, hK _ ?_⟩ | refine hK _ ?_
                        clear hK K
                        refine mix_pur2 rfl (fun K hK => ?_)
                        go_simp
                        first | refine ⟨_, fun _ => rfl, hK _ ?_⟩ | refine hK _ ?_
                        clear hK K
                        refine mix_pur2 rfl (fun K hK => ?_)
                        go_simp
                        first | refine ⟨_, fun _ => rfl, hK _ ?_⟩ | refine hK _ ?_
                        clear hK K
                        refine mix_load2 rfl rfl rfl (.int .i64 hd) (fun w' h => by have h : (fun w' => w'.cell? ⟨gb, go + i, none⟩ = some (.slice (some ⟨rb, ro, none⟩) c.villages.length rc) ∧ w'.cell? ⟨rb, ro + v, none⟩ = some (.int .i64 (d : Int)) ∧ TA w' sb cb pb po vb vo (.slice (some ⟨mb, mo, none⟩) c.mountains.length cpm) (.slice (some ⟨vb, vo, none⟩) c.villages.length cpv) d p s v hd) w' := h; have h0 := h.2.2.hd; go_simp) rfl ?_
                        refine mix_eff2 rfl true rfl (fun K hK => ?_)
                        go_simp
                        refine (HGR.out _).mono ?_
                        rintro e w9 ⟨rfl, hB9⟩
                        refine hK _ _ trivial ?_
                        clear hK K
                        refine mix_pur2 rfl (fun K hK => ?_)
                        go_simp
                        first | refine ⟨_, fun _ => rfl, hK _ ?_⟩ | refine hK _ ?_
                        clear hK K
                        refine mix_pur2 rfl (fun K hK => ?_)
                        go_simp
                        first | refine ⟨_, fun _ => rfl, hK _ ?_⟩ | refine hK _ ?_
                        clear hK K
                        refine mix_pur2 rfl (fun K hK => ?_)
                        go_simp
                        first | refine ⟨_, fun _ => rfl, hK _ ?_⟩ | refine hK _ ?_
                        clear hK K
                        refine mix_pur2 rfl (fun K hK => ?_)
                        go_simp
                        first | refine ⟨_, fun _ => rfl, hK _ ?_⟩ | refine hK _ ?_
                        clear hK K
                        refine mix_pur2 rfl (fun K hK => ?_)
                        go_simp
                        first | refine ⟨_, fun _ => rfl, hK _ ?_⟩ | refine hK _ ?_
                        clear hK K
                        refine mix_done2 ?_
                        have hB10 := bnx hBv (bnx (hqd.below wv.heap.size) hB9)
                        have q0 := HROW.out _ hB10
                        have hpl := place_c (v : Int) (q2.call hB10)
                        obtain ⟨pl, hple⟩ : ∃ x, x = placeOf l (v : Int) := ⟨_, rfl⟩
                        rw [← hple] at hpl
                        have HPLC := Lib.hid hpl
                        have HPLE := Lib.hid hple
                        clear hpl hple
                        have hn1 : (b1 && fd) = true → ∀ j < v + 1, overV c j (l.getD j 0) = 0 := fun h j hj => by
                          rw [Bool.and_eq_true, HFD2.out, decide_eq_true_eq] at h
                          by_cases e : j = v
                          · rw [e, HDE.out]; exact h.2
                          · exact HB1.out h.1 j (by omega)
                        have hn2 : (b2 && decide (pl ≥ 0)) = true → ∀ j < v + 1, 0 ≤ placeOf l (j : Int) := fun h j hj => by
                          rw [Bool.and_eq_true, decide_eq_true_eq, HPLE.out] at h
                          by_cases e : j = v
                          · rw [e]; exact h.2
                          · exact HB2.out h.1 j (by omega)
                        have HN1 := Lib.hid hn1
                        have HN2 := Lib.hid hn2
                        clear hn1 hn2
                        cases b2 with
                        | true =>
                          obtain ⟨bp, hbp⟩ : ∃ x, x = decide (pl ≥ 0) := ⟨_, rfl⟩
                          have HBP := Lib.hid hbp
                          have hbp2 : decide (0 ≤ pl) = bp := hbp.symm
                          cases b1 with
                          | true =>
                            clear hbp
                            go_wp2_with fail
                            refine HPLC.out.mono ?_
                            rintro e w11 ⟨rfl, hq11⟩
                            go_wp2_with fail
                            go_roundw
                            case rel => exact ⟨v + 1, by omega, by go_num, fd, _, rfl, rfl, by simpa using HN1.out, fun h j hj => HN2.out (by rw [Bool.true_and]; exact HBP.out.symm.trans h) j hj, bnx hB10 (hq11.below _)⟩
                            case measure => simp [intOf]; omega
                          | false =>
                            clear hbp
                            go_wp2_with fail
                            refine HPLC.out.mono ?_
                            rintro e w11 ⟨rfl, hq11⟩
                            go_wp2_with fail
                            go_roundw
                            case rel => exact ⟨v + 1, by omega, by go_num, false, _, rfl, rfl, by simp, fun h j hj => HN2.out (by rw [Bool.true_and]; exact HBP.out.symm.trans h) j hj, bnx hB10 (hq11.below _)⟩
                            case measure => simp [intOf]; omega
                        | false =>
                          cases b1 with
                          | true =>
                            go_wp2_with fail
                            go_roundw
                            case rel => exact ⟨v + 1, by omega, by go_num, fd, false, rfl, rfl, by simpa using HN1.out, by simp, hB10⟩
                            case measure => simp [intOf]; omega
                          | false =>
                            go_wp2_with fail
                            go_roundw
                            case rel => exact ⟨v + 1, by omega, by go_num, false, false, rfl, rfl, by simp, by simp, hB10⟩
                            case measure => simp [intOf]; omega
                      · obtain rfl : v = c.villages.length := by omega
                        cases b1 with
                        | true =>
                          cases b2 with
                          | true => exact (HNO.out (HB1.out rfl) (HB2.out rfl)).elim
                          | false =>
                            go_wp2_with fail
                            go_roundw
                            case rel => have h1 := HIW.out; exact ⟨i + 1, h1, by go_num, hBv⟩
                            case measure => have := HIW.out; simp [intOf]; omega
                        | false =>
                          go_wp2_with fail
                          go_roundw
                          case rel => have h1 := HIW.out; exact ⟨i + 1, h1, by go_num, hBv⟩
                          case measure => have := HIW.out; simp [intOf]; omega
                  · obtain rfl : i = W.length := by omega
                    go_wp2_with (go_at_call 56; refine (shorn_c _).mono ?_; rintro e wz ⟨rfl, hBz⟩)
                    go_ret
                    exact ⟨rfl, bnx (bnx hT5 (bnx hBw8 hBi)) hBz⟩

end Go.Proofs.Ythchpoabncdicaa
