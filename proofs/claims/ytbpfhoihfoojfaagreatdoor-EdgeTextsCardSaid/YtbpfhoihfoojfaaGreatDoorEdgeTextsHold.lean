/- EdgeTexts hands back true whatever the edge, the furrows, the text and the numbers, which read afterwards as before (its card: the listed variables are tied to the program's text); conditions: none. -/
import Derived.Test.YtbpfhoihfoojfaaGreatDoorRows
import Derived.Test.YtbpfhoihfoojfaaGreatDoorTie
import Derived.Test.YtbpfhoihfoojfaaGreatDoorCards
import Derived.Test.YtbpfhoihfoojfaaGreatDoorEtx
import Derived.Test.YtbpfhoihfoojfaaGreatDoorArgE
import Derived.LaidMore
import Derived.LaidSub
import Derived.LaidHandle
import Derived.Lay
import Derived.OpenShut
import Derived.Stop.Joined
import Derived.SevenTiedAt
import Derived.HandedShaped
import Derived.ChangeMaps5
import Derived.Lib.LaidTab
namespace Go.Proofs.YtbpfhoihfoojfaaGreatDoor
open Go.ChangeShapes Go.WideShapes Go.ChangeAt Go.RowKit Go.ChangeMaps

/-- What the row lists; what of it is plain data. -/
def laidR : List (String × DataW Unit) := [("math/bits.deBruijn32tab", Rows.laid_math_bits_deBruijn32tab), ("math/bits.deBruijn64tab", Rows.laid_math_bits_deBruijn64tab), ("internal/strconv.uint64pow10", Rows.laid_internal_strconv_uint64pow10), ("unicode/utf8.acceptRanges", Rows.laid_unicode_utf8_acceptRanges), ("errors.errorType", Rows.laid_errors_errorType), ("strconv.ErrRange", Rows.laid_strconv_ErrRange), ("strconv.ErrSyntax", Rows.laid_strconv_ErrSyntax), ("unicode/utf8.first", Rows.laid_unicode_utf8_first)]
def laidQ : List (String × DataW Unit) := [("math/bits.deBruijn32tab", Rows.laid_math_bits_deBruijn32tab), ("math/bits.deBruijn64tab", Rows.laid_math_bits_deBruijn64tab), ("internal/strconv.uint64pow10", Rows.laid_internal_strconv_uint64pow10), ("unicode/utf8.acceptRanges", Rows.laid_unicode_utf8_acceptRanges), ("strconv.ErrRange", Rows.laid_strconv_ErrRange), ("strconv.ErrSyntax", Rows.laid_strconv_ErrSyntax), ("unicode/utf8.first", Rows.laid_unicode_utf8_first)]

/-- The wrap with what the row lists and the world's shape, both handed on. -/
theorem handed_and_shaped {H : Type} {enc : TypeId × Value → H} {a : Assume} {C : Checked} {os : Os} {f : FuncId} {fn : Func} {s : ChangeSpec} {conds : List PathCond} {apart fresh handsOn again : Bool} {X : World → Array Value → Prop}
    (hX : ∀ (w w' : World) (args : Array Value), w.heap = w'.heap → X w args → X w' args)
    (own : ownKnob C.prog.godebug = none) (started : os.Started) (noInit : C.prog.inits.idxOf? f = none) (hfn : C.prog.funcs[f]? = some fn)
    (witness : ∃ (w : World) (tape : Tape) (i : Input), w.os = os ∧ (w.forCall tape i).Shaped C.prog ∧ i.vars = [] ∧ Input.okWide C.prog (w.forCall tape i) .any w.heap.size f i ∧
      ((s.pre enc C.prog fn conds apart (w.forCall tape i).memory i.args ∧ X (w.forCall tape i).memory i.args) ∧ sizedMet enc C.prog fn (OpenSpec.ofChange s) apart (w.forCall tape i).memory i.args) ∧ a.holds C.prog (lone (Frame.enter C.prog f i.args .normal) [] (w.forCall tape i)))
    (contract : ∀ (W : World) (base : Nat) (args : Array Value) (ds gs : List (DataW H)) (before : List MemPlace),
      (∀ (j : Nat) t v, fn.params[j]? = some t → args[j]? = some v → Value.okWide C.prog W .any base t v) →
      DataW.Whole enc C.prog fn.params.toList s.vars apart W args.toList ds gs before →
      (DataW.weightsEach C.prog (fn.params.toList ++ s.plain.varTypes C.prog) (ds ++ gs)).all (· ≤ reachBytes) = true → X W args → W.ShapedOpen C.prog →
      Calls C.prog f args W fun e W' => ∃ v, e = .returned v ∧ s.post enc C.prog fn apart fresh handsOn again W args v W') :
    ReturnsInHanded a C os f .any (fun w args => (s.pre enc C.prog fn conds apart w args ∧ X w args) ∧ sizedMet enc C.prog fn (OpenSpec.ofChange s) apart w args) (s.post enc C.prog fn apart fresh handsOn again) := by
  refine returnsInHanded_of_calls own started noInit witness ?_
  intro w tape i _ hsh _ hok hpre _
  obtain ⟨_, _, _, fn', hfn', _, _, _, _, hval⟩ := hok
  have e : fn' = fn := Option.some.inj (hfn'.symm.trans hfn)
  subst e
  obtain ⟨⟨⟨ds, gs, before, hw, _⟩, hx⟩, hz⟩ := hpre
  have hw' := DataW.Whole.of_heap (w' := w.forCall tape i) (by rfl) hw
  refine (contract (w.forCall tape i) w.heap.size i.args ds gs before hval hw' (hz.weights hw) (hX _ _ _ (by rfl) hx) hsh).mono fun e W' ⟨v, he, hp⟩ => ?_
  subst he
  exact ChangeSpec.post_blind hp

theorem Tryz.etG : Tryz.prog.globalNamed "errors.errorType" = some 0 := by kernel_rfl
theorem Tryz.rtG : (Tryz.prog.cutTypes.find? (·.1 == "internal/reflectlite.rtype")).map (·.2) = some 171 := by kernel_rfl
theorem Tryz.oneRow : ((List.range 284).filter fun t => Tryz.prog.rowNamed t [101, 114, 114, 111, 114]) = [90] := by kernel_rfl
theorem Tryz.typesSize : Tryz.prog.types.size = 284 := by kernel_rfl
theorem handle_of_laid {W : World} (h : laidMetH Tryz.prog laidR W) : W.cell? ⟨0, 0, none⟩ = some (.iface 171 (.agg #[.pointer (some ⟨9, 90, none⟩)])) := by
  have h1 := h.filter (fun x => x.1 == "errors.errorType")
  have e1 : (laidR.filter fun x => x.1 == "errors.errorType") = [("errors.errorType", Rows.laid_errors_errorType)] := by
    simp [laidR, List.filter]
  rw [e1] at h1
  have h' : laidMet Tryz.prog [] W ∧ handlesMet Tryz.prog [("errors.errorType", Rows.laid_errors_errorType)] W := h1
  obtain ⟨name, u, ty, e1, e2, e3, e4, e5⟩ := h'.2 _ (List.mem_singleton.2 rfl)
  have en : name = [101, 114, 114, 111, 114] := (Option.some.inj e1).symm
  subst en
  obtain rfl := Option.some.inj (Tryz.rtG.symm.trans e2)
  have hm : ty ∈ (List.range 284).filter fun t => Tryz.prog.rowNamed t [101, 114, 114, 111, 114] := List.mem_filter.2 ⟨List.mem_range.2 (by rw [← Tryz.typesSize]; exact e3), e4⟩
  rw [Tryz.oneRow] at hm
  obtain rfl := List.mem_singleton.1 hm
  have hh : typeHandle Tryz.prog 90 = .pointer (some ⟨9, 90, none⟩) := by kernel_rfl
  rw [hh] at e5
  simpa using World.var?_cell Tryz.etG e5 0
theorem tab_of_laid {W : World} (h : laidMetH Tryz.prog laidR W) : Lib.TabIs Tryz.prog W "internal/strconv.uint64pow10" .u64 Lib.pow10Tab := by
  have h1 := h.filter (fun x => x.1 == "internal/strconv.uint64pow10")
  have e1 : (laidR.filter fun x => x.1 == "internal/strconv.uint64pow10") = [("internal/strconv.uint64pow10", Lib.tabData .u64 Lib.pow10Tab)] := by
    simp [laidR, List.filter]
    rfl
  rw [e1, MakeChecks.laidMetH_plain _ _ _ (by rfl)] at h1
  exact Lib.tabIs_of_head (g := 1) (t := 217) (e := 65) (by kernel_rfl) (by kernel_rfl) Tryz.underlying217 Tryz.underlying65 (by kernel_rfl) (by kernel_rfl) h1
theorem gv_of_laid {W : World} (h : laidMetH Tryz.prog laidR W) (hsh : W.ShapedOpen Tryz.prog) : GV W := by
  obtain ⟨m, hm0⟩ := Tryz.laysM146.s1_3 W hsh
  have hm : W.cell? ⟨2, 0, none⟩ = some (.int .i64 m) := hm0
  refine ⟨⟨m, hm⟩, handle_of_laid h, tab_of_laid h, ?_⟩
  rcases Nat.lt_or_ge 2 W.heap.size with h2 | h2
  · exact h2
  · exfalso
    have h3 : W.heap[2]? = none := by simp [h2]
    simp [World.cell?, h3] at hm

/-- A world that meets the condition. -/
noncomputable def wit0 (os : Os) : World :=
  let w0 := World.holding Tryz.prog os ⟨#[], #[], []⟩
  { w0 with heap := w0.heap.modify 0 fun
      | .cells _ t frozen => .cells #[.iface 171 (.agg #[.pointer (some ⟨9, 90, none⟩)])] t frozen
      | o => o }
noncomputable def wit (os : Os) : World := (wit0 os).layVars Tryz.prog laidQ
theorem wit_os (os : Os) : (wit os).os = os := World.layVars_os _ _ _
theorem wit_met (os : Os) (args : Array Value) : laidMetH Tryz.prog laidR ((wit os).forCall (fun _ _ => 0) ⟨#[], args, []⟩).memory := by
  refine laidMetH_of_parts ?_ (by kernel_rfl)
  have eq : (laidR.filter fun x => x.2.handleName?.isNone) = laidQ := by kernel_rfl
  rw [eq]
  have e1 : (laidQ.filter fun x => (laidQ.map (·.1)).contains x.1) = laidQ := List.filter_eq_self.2 fun x hx => List.contains_iff_mem.2 (List.mem_map.2 ⟨x, hx, rfl⟩)
  have e2 : (laidQ.filter fun x => !(laidQ.map (·.1)).contains x.1) = [] := List.filter_eq_nil_iff.2 fun x hx => by rw [List.contains_iff_mem.2 (List.mem_map.2 ⟨x, hx, rfl⟩)]; simp
  have h : laidMet Tryz.prog laidQ (wit os) := laidMet_layVars (w0 := wit0 os) (laidQ.map (·.1)) [] (by rw [e1]; rfl) (by rw [e1]; kernel_rfl) (by rw [e1]; kernel_rfl) (by rw [e2]; exact LaidIn.none)
  exact h.of_heap (by simp [World.memory, World.forCall, Input.heap])

set_option maxRecDepth 100000 in
/-- A byte, out of its reading. -/
theorem byte_of_arg {H : Type} {enc : TypeId × Value → H} {W : World} {base : Nat} {v : Value} {d : DataW H} {p : List MemPlace} (hok : Value.okWide Tryz.prog W .any base 5 v) (h : DataW.Trod enc Tryz.prog W 0 (fun _ => true) true 5 v d p) :
    ∃ x : UInt8, v = .int .u8 x.toNat := by
  obtain ⟨x, rfl⟩ := okWide_int Tryz.underlying5 hok
  obtain ⟨fuel, hf⟩ := h
  obtain ⟨n, hcs, _, hw⟩ := DataW.trod_int Tryz.underlying5 hf
  simp [Value.cells] at hcs
  subst hcs
  have h1 : (Lit.int .u8 x).wf = true := hw
  simp only [Lit.wf, Bool.and_eq_true, decide_eq_true_eq] at h1
  have e1 : IntKind.u8.min = 0 := by decide
  have e2 : IntKind.u8.max = 255 := by decide
  rw [e1, e2] at h1
  refine ⟨UInt8.ofNat x.toNat, ?_⟩
  rw [UInt8.toNat_ofNat_of_lt' (by show x.toNat < 256; omega)]
  congr 1
  omega

set_option maxRecDepth 100000 in
theorem edgeTexts_lifted (os : Os) (started : os.Started) (H : Type) (enc : TypeId × Value → H) :
    ReturnsInHanded {} Tryz.checked os 3 .any (fun w args => (Rows.edgeTextsSpec.pre enc Tryz.prog Tryz.f3 [] false w args ∧ laidMetH Tryz.prog laidR w) ∧ sizedMet enc Tryz.prog Tryz.f3 (OpenSpec.ofChange Rows.edgeTextsSpec) false w args)
      (Rows.edgeTextsSpec.post enc Tryz.prog Tryz.f3 false true false false) := by
  refine handed_and_shaped (C := Tryz.checked) (X := fun w _ => laidMetH Tryz.prog laidR w) (fun _ _ _ hh h => h.of_heap hh) Tryz.own started (by kernel_rfl) Tryz.func3
    (ChangeSpec.witness_shaped (enc := enc) (C := Tryz.checked) (os := os) (X := fun w _ => laidMetH Tryz.prog laidR w) false (wit os) #[.agg #[.int .i64 0, .int .i64 0, .slice none 0 0], .slice none 0 0, .string ⟨#[]⟩, .slice none 0 0, .int .i64 0, .int .i64 0, .int .u8 0] 8 (wit_os _)
      (World.shaped_of_ZipB (by kernel_rfl) (by kernel_rfl)) (by kernel_rfl) (by kernel_rfl) (by kernel_rfl)
      (wit_met os _)) ?_
  intro W base args ds gs before hval0 hW hsz0 hL hsh
  have hsz : (DataW.weightsEach Tryz.prog (Tryz.f3.params.toList ++ Rows.edgeTextsSpec.plain.varTypes Tryz.prog) (ds ++ gs)).all (· ≤ reachBytes) = true := hsz0
  have hval : ∀ (j : Nat) t v, Tryz.f3.params[j]? = some t → args[j]? = some v → Value.okWide Tryz.prog W .any base t v := hval0
  have hW' := hW
  obtain ⟨p, q, hA0, hV, rfl, _, _⟩ := hW
  have hA : DataW.TrodAll enc Tryz.prog W 0 (fun _ => true) true Tryz.f3.params.toList args.toList ds p := hA0
  rw [Tryz.params3] at hA hval hsz
  obtain ⟨v0, r0, d0, s0, p0, q0, ha0, rfl, rfl, h0, hA⟩ := trodAll_cons hA
  obtain ⟨v1, r1, d1, s1, p1, q1, rfl, rfl, rfl, h1, hA⟩ := trodAll_cons hA
  obtain ⟨v2, r2, d2, s2, p2, q2, rfl, rfl, rfl, h2, hA⟩ := trodAll_cons hA
  obtain ⟨v3, r3, d3, s3, p3, q3, rfl, rfl, rfl, h3, hA⟩ := trodAll_cons hA
  obtain ⟨v4, r4, d4, s4, p4, q4, rfl, rfl, rfl, h4, hA⟩ := trodAll_cons hA
  obtain ⟨v5, r5, d5, s5, p5, q5, rfl, rfl, rfl, h5, hA⟩ := trodAll_cons hA
  obtain ⟨v6, r6, d6, s6, p6, q6, rfl, rfl, rfl, h6, hA⟩ := trodAll_cons hA
  obtain ⟨rfl, rfl, rfl⟩ := trodAll_nil hA
  obtain rfl : args = #[v0, v1, v2, v3, v4, v5, v6] := by cases args; simp_all
  obtain ⟨rfl, rfl⟩ := trodVars_none hV
  obtain ⟨x0, vx0, rfl, g0⟩ := edge_of_arg (hval 0 24 v0 rfl rfl) h0
  obtain ⟨l0, g1⟩ := furrows_of_arg (hval 1 25 v1 rfl rfl) h1
  obtain ⟨s, rfl, rfl, rfl, hs⟩ := open_string Tryz.underlying9 (hval 2 9 v2 rfl rfl) h2
  obtain ⟨nums, hn⟩ := ints_of_arg (hval 3 26 v3 rfl rfl) h3
  obtain ⟨x4, rfl, b4, bb4⟩ := num_of_arg (hval 4 3 v4 rfl rfl) h4
  obtain ⟨x5, rfl, b5, bb5⟩ := num_of_arg (hval 5 3 v5 rfl rfl) h5
  obtain ⟨x6, rfl⟩ := byte_of_arg (hval 6 5 v6 rfl rfl) h6
  have hlen : s.data.toList.length ≤ reachBytes := by
    have := List.all_eq_true.1 hsz s.data.toList.length (by
      show s.data.toList.length ∈ DataW.weightsEach Tryz.prog (24 :: 25 :: 9 :: _) (d0 :: d1 :: .lit (.string s.data.toList) :: _)
      simp [DataW.weightsEach, DataW.weights])
    simpa using this
  have hG := gv_of_laid hL hsh
  rw [show (Value.string s) = .string (str s.data.toList) from rfl] at hW' ⊢
  refine (edgeTexts_c g0 g1 s.data.toList (Nat.le_trans hlen (by decide)) hn x4 x5 ⟨b4, bb4⟩ ⟨b5, bb5⟩ x6 hG).mono fun e W' ⟨he, hB⟩ => ?_
  subst he
  refine ⟨_, rfl, post_of_below hW' rfl (fun _ _ _ => trodAll_mk1 (shut_bool Tryz.underlying4 true)) (fun t ht => ?_) rfl rfl hB (ok_one (by kernel_rfl) rfl (okWide_bool_mk Tryz.underlying4 true))⟩
  rw [Tryz.params3] at ht
  simp only [List.mem_cons, List.not_mem_nil, or_false] at ht
  rcases ht with rfl | rfl | rfl | rfl | rfl | rfl | rfl <;> exact ⟨by kernel_rfl, of_decide_eq_true (by kernel_rfl)⟩

theorem edgeTexts_row : Rows.EdgeTextsSaid :=
  OpenClaim.holds_of_wide 3 Tryz.f3 rfl rfl rfl rfl rfl rfl rfl ⟨rfl, rfl, rfl, rfl, rfl⟩ rfl rfl rfl rfl rfl (by kernel_rfl) Tryz.func3 (by kernel_rfl)
    (of_decide_eq_true (by kernel_rfl)) (by unfold Func.isWrapper; first | (rw [if_pos (by decide +kernel)]; kernel_rfl) | (rw [if_neg (by decide +kernel)]; exact ⟨rfl, rfl⟩))
    (fun os started H enc _ => edgeTexts_lifted os started H enc)

theorem edgeTexts_holds : Rows.EdgeTextsCardSaid :=
  Claim7.holds_tied_plain_at .later [] [.data, .data, .data, .data, .handle, .sentinel, .sentinel, .pinned] true (true, "8ccc14dc800aac6ebce75369c2816f76e2def6231881489bfe45f61d53a2073c") true
    edgeTexts_row (fun _ h => by cases h) (by kernel_rfl) (fun _ h => by cases h) edgeTexts_row_tie rfl ⟨rfl, rfl⟩ (by kernel_rfl) rfl
    (fun f fn hf hfn => by
      obtain rfl : f = 3 := Option.some.inj ((show Tryz.prog.funcNamed "mesta/mestalaw06.EdgeTexts" = some 3 by kernel_rfl).symm.trans hf) |>.symm
      obtain rfl : fn = Tryz.f3 := (Option.some.inj (Tryz.func3.symm.trans hfn)).symm
      exact ⟨by kernel_rfl, fun j t ht => by
        rw [Tryz.params3] at ht
        have hm : t ∈ [24, 25, 9, 26, 3, 3, 5] := by simpa using Array.mem_of_getElem? ht
        have hall : ([24, 25, 9, 26, 3, 3, 5].all fun u => !Tryz.prog.wantsStandIn u) = true := by kernel_rfl
        exact (show Tryz.prog.wantsStandIn t = false by simpa using List.all_eq_true.1 hall t hm)⟩)
    (by kernel_rfl)

end Go.Proofs.YtbpfhoihfoojfaaGreatDoor
