/- EdgeTaken hands back true for all arguments, which read afterwards as before; conditions: none. -/
import Derived.Test.YtgdifckmjdjcpaaRows
import Derived.Test.YtgdifckmjdjcpaaLaw
import Derived.Test.YtgdifckmjdjcpaaArgE
import Derived.Test.YtgdifckmjdjcpaaLTak
namespace Go.Proofs.Ytgdifckmjdjcpaa
open Go.ChangeShapes Go.WideShapes Go.ChangeAt Go.RowKit

set_option maxRecDepth 100000 in
theorem edgeTaken_lifted (os : Os) (started : os.Started) (H : Type) (enc : TypeId × Value → H) :
    ReturnsInHanded {} Try.checked os 14 .any (Rows.edgeTakenSpec.pre6 enc Try.prog Try.f14 Rows.edgeTakenRow.domain false) (Rows.edgeTakenSpec.post enc Try.prog Try.f14 false true false false) := by
  refine returnsInHanded_of_change (C := Try.checked) Try.own started (by kernel_rfl) Try.func14
    (ChangeSpec.witness6 (enc := enc) (C := Try.checked) false ⟨#[], #[.agg #[.int .i64 0, .int .i64 0, .slice none 0 0], .slice none 0 0, .agg #[.int .i64 0, .int .i64 0, .int .i64 0], .int .i64 0, .int .i64 0, .slice none 0 0], []⟩ 8 (by kernel_rfl) (by kernel_rfl) (by kernel_rfl) (by kernel_rfl)) ?_
  intro W base args ds gs before hval0 hW _ _
  have hval : ∀ (j : Nat) t v, Try.f14.params[j]? = some t → args[j]? = some v → Value.okWide Try.prog W .any base t v := hval0
  have hW' := hW
  obtain ⟨p, q, hA0, hV, rfl, _, _⟩ := hW
  have hA : DataW.TrodAll enc Try.prog W 0 (fun _ => true) true Try.f14.params.toList args.toList ds p := hA0
  rw [Try.params14] at hA hval
  obtain ⟨v0, r0, d0, s0, p0, q0, ha0, rfl, rfl, h0, hA⟩ := trodAll_cons hA
  obtain ⟨v1, r1, d1, s1, p1, q1, rfl, rfl, rfl, h1, hA⟩ := trodAll_cons hA
  obtain ⟨v2, r2, d2, s2, p2, q2, rfl, rfl, rfl, h2, hA⟩ := trodAll_cons hA
  obtain ⟨v3, r3, d3, s3, p3, q3, rfl, rfl, rfl, h3, hA⟩ := trodAll_cons hA
  obtain ⟨v4, r4, d4, s4, p4, q4, rfl, rfl, rfl, h4, hA⟩ := trodAll_cons hA
  obtain ⟨v5, r5, d5, s5, p5, q5, rfl, rfl, rfl, h5, hA⟩ := trodAll_cons hA
  obtain ⟨rfl, rfl, rfl⟩ := trodAll_nil hA
  obtain rfl : args = #[v0, v1, v2, v3, v4, v5] := by cases args; simp_all
  obtain ⟨rfl, rfl⟩ := trodVars_none hV
  obtain ⟨x0, vx0, rfl, g0⟩ := edge_of_arg (hval 0 24 v0 rfl rfl) h0
  obtain ⟨l1, g1⟩ := furrows_of_arg (hval 1 44 v1 rfl rfl) h1
  obtain ⟨c2, rfl⟩ := furrow_of_arg (hval 2 76 v2 rfl rfl) h2
  obtain ⟨x3, rfl, -, -⟩ := num_of_arg (hval 3 3 v3 rfl rfl) h3
  obtain ⟨x4, rfl, -, -⟩ := num_of_arg (hval 4 3 v4 rfl rfl) h4
  obtain ⟨l5, g5⟩ := ints_of_arg (hval 5 27 v5 rfl rfl) h5
  refine (edgeTaken_c g0 g1 c2 x3 x4 g5).mono fun e W' ⟨he, hB⟩ => ?_
  subst he
  refine ⟨_, rfl, post_of_below hW' rfl (fun _ _ _ => trodAll_mk1 (shut_bool Try.underlying4 true)) (fun t ht => ?_) rfl rfl hB (ok_one (by kernel_rfl) rfl (okWide_bool_mk Try.underlying4 true))⟩
  rw [Try.params14] at ht
  simp only [List.mem_cons, List.not_mem_nil, or_false] at ht
  rcases ht with rfl | rfl | rfl | rfl | rfl | rfl <;> exact ⟨by kernel_rfl, of_decide_eq_true (by kernel_rfl)⟩

theorem edgeTaken_holds : Rows.EdgeTakenSaid :=
  OpenClaim.holds_of_wide 14 Try.f14 rfl rfl rfl rfl rfl rfl rfl ⟨rfl, rfl, rfl, rfl, rfl⟩ rfl rfl rfl rfl rfl (by kernel_rfl) Try.func14 (by kernel_rfl)
    (of_decide_eq_true (by kernel_rfl)) (by unfold Func.isWrapper; first | (rw [if_pos (by decide +kernel)]; kernel_rfl) | (rw [if_neg (by decide +kernel)]; exact ⟨rfl, rfl⟩))
    (fun os started H enc _ => edgeTaken_lifted os started H enc)

end Go.Proofs.Ytgdifckmjdjcpaa
