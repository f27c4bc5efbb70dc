/-
  FnExactNewLines: the program's NewLines and the reference's give the same lines, each call lines of its own, so the law returns true. No condition.
-/
import Derived.Test.YtbjefkkbmbgakaaNewL
import Derived.OpenShut
namespace Go.Proofs.Ytbjefkkbmbgakaa.fnExactNewLines
open Go.ChangeShapes Go.WideShapes Go.ChangeAt Go.RowKit
open Go.Proofs.Ytbjefkkbmbgakaa.A
set_option linter.unusedVariables false

theorem own : ownKnob Try.prog.godebug = none := by kernel_rfl

def types : List TypeId := [3, 4]

set_option maxRecDepth 100000 in
theorem lifted (os : Os) (started : os.Started) (H : Type) (enc : TypeId × Value → H) :
    ReturnsInHanded {} Try.checked os 5 .any (Rows.fnExactNewLinesSpec.pre6 enc Try.prog Try.f5 Rows.fnExactNewLinesRow.domain false) (Rows.fnExactNewLinesSpec.post enc Try.prog Try.f5 false true false false) := by
  refine returnsInHanded_of_change (C := Try.checked) own started (by kernel_rfl) Try.func5
    (ChangeSpec.witness6 (enc := enc) (C := Try.checked) false ⟨#[], #[], []⟩ 8 (by kernel_rfl) (by kernel_rfl) (by kernel_rfl) (by kernel_rfl)) ?_
  intro W base args ds gs before hval0 hW hcnd _
  have hval : ∀ (j : Nat) t v, Try.f5.params[j]? = some t → args[j]? = some v → Value.okWide Try.prog W .any base t v := hval0
  refine law_post (rs := types) (bt := 4) (by kernel_rfl) (by kernel_rfl) (fun t ht => ?_) Try.underlying4 (by kernel_rfl) rfl (fun ds hds => ?_) hW hval fun l has => ?_
  · rw [Try.params5] at ht
    simp at ht
  · rw [← Array.length_toList, Try.params5] at hds
    match ds, hds with
    | [], _ => exact ⟨rfl, rfl, rfl⟩
  · rw [Try.params5] at has
    cases has
    exact A.law_new _

theorem over : Rows.fnExactNewLinesRow.holds Try.pinned (OpenSpec.ofChange Rows.fnExactNewLinesSpec) :=
  OpenClaim.holds_of_wide 5 Try.f5 rfl rfl rfl rfl rfl rfl rfl ⟨rfl, rfl, rfl, rfl, rfl⟩ rfl rfl rfl rfl rfl (by kernel_rfl) Try.func5 (by kernel_rfl)
    (of_decide_eq_true (by kernel_rfl)) (by unfold Func.isWrapper; first | (rw [if_pos (by decide +kernel)]; kernel_rfl) | (rw [if_neg (by decide +kernel)]; exact ⟨rfl, rfl⟩))
    (fun os started H enc _ => lifted os started H enc)

/-- THE STATEMENT -/
theorem proved : Rows.FnExactNewLinesSaid :=
  over
#print axioms proved
end Go.Proofs.Ytbjefkkbmbgakaa.fnExactNewLines
