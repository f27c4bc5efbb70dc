/-
  FnExactAreLines: for every list of lines the program's AreLines and the reference's answer the same, so the law returns true. No condition.
-/
import Derived.Test.YtbjefkkbmbgakaaLines
import Derived.OpenShut
namespace Go.Proofs.Ytbjefkkbmbgakaa.fnExactAreLines
open Go.ChangeShapes Go.WideShapes Go.ChangeAt Go.RowKit
open Go.Proofs.Ytbjefkkbmbgakaa.A
set_option linter.unusedVariables false

theorem own : ownKnob Try.prog.godebug = none := by kernel_rfl

def types : List TypeId := [36, 72, 67, 3, 4]

set_option maxRecDepth 100000 in
theorem lifted (os : Os) (started : os.Started) (H : Type) (enc : TypeId × Value → H) :
    ReturnsInHanded {} Try.checked os 6 .any (Rows.fnExactAreLinesSpec.pre6 enc Try.prog Try.f6 Rows.fnExactAreLinesRow.domain false) (Rows.fnExactAreLinesSpec.post enc Try.prog Try.f6 false true false false) := by
  refine returnsInHanded_of_change (C := Try.checked) own started (by kernel_rfl) Try.func6
    (ChangeSpec.witness6 (enc := enc) (C := Try.checked) false ⟨#[], #[.slice none 0 0], []⟩ 6 (by kernel_rfl) (by kernel_rfl) (by kernel_rfl) (by kernel_rfl)) ?_
  intro W base args ds gs before hval0 hW hcnd _
  have hval : ∀ (j : Nat) t v, Try.f6.params[j]? = some t → args[j]? = some v → Value.okWide Try.prog W .any base t v := hval0
  refine law_post (rs := types) (bt := 4) (by kernel_rfl) (by kernel_rfl) (fun t ht => ?_) Try.underlying4 (by kernel_rfl) rfl (fun ds hds => ?_) hW hval fun l has => ?_
  · rw [Try.params6] at ht
    simp at ht
    subst ht
    exact ⟨by simp [types], by kernel_rfl, of_decide_eq_true (by kernel_rfl)⟩
  · rw [← Array.length_toList, Try.params6] at hds
    match ds, hds with
    | [d], _ => exact ⟨rfl, rfl, rfl⟩
  · rw [Try.params6] at has
    cases has with
    | cons h r =>
      cases r
      obtain ⟨n, h⟩ := h
      rw [if_neg (by decide)] at h
      obtain ⟨s, rfl, hs⟩ := shLineS h
      exact law_areLines hs _

theorem over : Rows.fnExactAreLinesRow.holds Try.pinned (OpenSpec.ofChange Rows.fnExactAreLinesSpec) :=
  OpenClaim.holds_of_wide 6 Try.f6 rfl rfl rfl rfl rfl rfl rfl ⟨rfl, rfl, rfl, rfl, rfl⟩ rfl rfl rfl rfl rfl (by kernel_rfl) Try.func6 (by kernel_rfl)
    (of_decide_eq_true (by kernel_rfl)) (by unfold Func.isWrapper; first | (rw [if_pos (by decide +kernel)]; kernel_rfl) | (rw [if_neg (by decide +kernel)]; exact ⟨rfl, rfl⟩))
    (fun os started H enc _ => lifted os started H enc)

/-- THE STATEMENT -/
theorem proved : Rows.FnExactAreLinesSaid :=
  over
#print axioms proved
end Go.Proofs.Ytbjefkkbmbgakaa.fnExactAreLines
