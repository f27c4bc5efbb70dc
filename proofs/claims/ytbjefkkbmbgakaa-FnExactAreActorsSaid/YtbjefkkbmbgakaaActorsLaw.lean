/-
  FnExactAreActors: for every list of actors the program's AreActors and the reference's answer the same, so the law returns true. No condition.
-/
import Derived.Test.YtbjefkkbmbgakaaActors
import Derived.OpenShut
namespace Go.Proofs.Ytbjefkkbmbgakaa.fnExactAreActors
open Go.ChangeShapes Go.WideShapes Go.ChangeAt Go.RowKit
open Go.Proofs.Ytbjefkkbmbgakaa.A
set_option linter.unusedVariables false

theorem own : ownKnob Try.prog.godebug = none := by kernel_rfl

def types : List TypeId := [51, 82, 67, 3, 4]

set_option maxRecDepth 100000 in
theorem lifted (os : Os) (started : os.Started) (H : Type) (enc : TypeId × Value → H) :
    ReturnsInHanded {} Try.checked os 8 .any (Rows.fnExactAreActorsSpec.pre6 enc Try.prog Try.f8 Rows.fnExactAreActorsRow.domain false) (Rows.fnExactAreActorsSpec.post enc Try.prog Try.f8 false true false false) := by
  refine returnsInHanded_of_change (C := Try.checked) own started (by kernel_rfl) Try.func8
    (ChangeSpec.witness6 (enc := enc) (C := Try.checked) false ⟨#[], #[.slice none 0 0], []⟩ 8 (by kernel_rfl) (by kernel_rfl) (by kernel_rfl) (by kernel_rfl)) ?_
  intro W base args ds gs before hval0 hW hcnd _
  have hval : ∀ (j : Nat) t v, Try.f8.params[j]? = some t → args[j]? = some v → Value.okWide Try.prog W .any base t v := hval0
  refine law_post (rs := types) (bt := 4) (by kernel_rfl) (by kernel_rfl) (fun t ht => ?_) Try.underlying4 (by kernel_rfl) rfl (fun ds hds => ?_) hW hval fun l has => ?_
  · rw [Try.params8] at ht
    simp at ht
    subst ht
    exact ⟨by simp [types], by kernel_rfl, of_decide_eq_true (by kernel_rfl)⟩
  · rw [← Array.length_toList, Try.params8] at hds
    match ds, hds with
    | [d], _ => exact ⟨rfl, rfl, rfl⟩
  · rw [Try.params8] at has
    cases has with
    | cons h r =>
      cases r
      obtain ⟨n, h⟩ := h
      rw [if_neg (by decide)] at h
      obtain ⟨s, rfl, hs⟩ := shActorS h
      exact law_areActors hs _

theorem over : Rows.fnExactAreActorsRow.holds Try.pinned (OpenSpec.ofChange Rows.fnExactAreActorsSpec) :=
  OpenClaim.holds_of_wide 8 Try.f8 rfl rfl rfl rfl rfl rfl rfl ⟨rfl, rfl, rfl, rfl, rfl⟩ rfl rfl rfl rfl rfl (by kernel_rfl) Try.func8 (by kernel_rfl)
    (of_decide_eq_true (by kernel_rfl)) (by unfold Func.isWrapper; first | (rw [if_pos (by decide +kernel)]; kernel_rfl) | (rw [if_neg (by decide +kernel)]; exact ⟨rfl, rfl⟩))
    (fun os started H enc _ => lifted os started H enc)

/-- THE STATEMENT -/
theorem proved : Rows.FnExactAreActorsSaid :=
  over
#print axioms proved
end Go.Proofs.Ytbjefkkbmbgakaa.fnExactAreActors
