/- EdgeAll hands back true for every list of numbers, which reads afterwards as before; conditions: none. -/
import Derived.Test.YtgdifckmjdjcpaaRows
import Derived.Test.YtgdifckmjdjcpaaLaw
import Derived.Test.YtgdifckmjdjcpaaLAll
namespace Go.Proofs.Ytgdifckmjdjcpaa
open Go.ChangeShapes Go.WideShapes Go.ChangeAt Go.RowKit

set_option maxRecDepth 100000 in
theorem edgeAll_lifted (os : Os) (started : os.Started) (H : Type) (enc : TypeId × Value → H) :
    ReturnsInHanded {} Try.checked os 19 .any (Rows.edgeAllSpec.pre6 enc Try.prog Try.f19 Rows.edgeAllRow.domain false) (Rows.edgeAllSpec.post enc Try.prog Try.f19 false true false false) := by
  refine returnsInHanded_of_change (C := Try.checked) Try.own started (by kernel_rfl) Try.func19
    (ChangeSpec.witness6 (enc := enc) (C := Try.checked) false ⟨#[], #[.slice none 0 0], []⟩ 8 (by kernel_rfl) (by kernel_rfl) (by kernel_rfl) (by kernel_rfl)) ?_
  intro W base args ds gs before hval0 hW _ _
  have hval : ∀ (j : Nat) t v, Try.f19.params[j]? = some t → args[j]? = some v → Value.okWide Try.prog W .any base t v := hval0
  have hW' := hW
  obtain ⟨p, q, hA0, hV, rfl, _, _⟩ := hW
  have hA : DataW.TrodAll enc Try.prog W 0 (fun _ => true) true Try.f19.params.toList args.toList ds p := hA0
  rw [Try.params19] at hA hval
  obtain ⟨v0, d0, rfl, rfl, h0⟩ := trodAll_one hA
  obtain ⟨rfl, rfl⟩ := trodVars_none hV
  obtain ⟨l, hl⟩ := ints_of_arg (hval 0 27 v0 rfl rfl) h0
  refine (edgeAll_c hl).mono fun e W' ⟨he, hB⟩ => ?_
  subst he
  refine ⟨_, rfl, post_of_below hW' rfl (fun _ _ _ => trodAll_mk1 (shut_bool Try.underlying4 true)) (fun t ht => ?_) rfl rfl hB (ok_one (by kernel_rfl) rfl (okWide_bool_mk Try.underlying4 true))⟩
  rw [Try.params19] at ht
  simp only [List.mem_singleton] at ht
  subst ht
  exact ⟨by kernel_rfl, of_decide_eq_true (by kernel_rfl)⟩

theorem edgeAll_holds : Rows.EdgeAllSaid :=
  OpenClaim.holds_of_wide 19 Try.f19 rfl rfl rfl rfl rfl rfl rfl ⟨rfl, rfl, rfl, rfl, rfl⟩ rfl rfl rfl rfl rfl (by kernel_rfl) Try.func19 (by kernel_rfl)
    (of_decide_eq_true (by kernel_rfl)) (by unfold Func.isWrapper; first | (rw [if_pos (by decide +kernel)]; kernel_rfl) | (rw [if_neg (by decide +kernel)]; exact ⟨rfl, rfl⟩))
    (fun os started H enc _ => edgeAll_lifted os started H enc)

end Go.Proofs.Ytgdifckmjdjcpaa
