/-
  FnExactSameResponse: for any two responses the program's SameResponse and the reference's answer the same, so the law returns true. No condition.
-/
import Derived.Test.YtbjefkkbmbgakaaResp
import Derived.OpenShut
namespace Go.Proofs.Ytbjefkkbmbgakaa.fnExactSameResponse
open Go.ChangeShapes Go.WideShapes Go.ChangeAt Go.RowKit
open Go.Proofs.Ytbjefkkbmbgakaa.A
set_option linter.unusedVariables false

theorem own : ownKnob Try.prog.godebug = none := by kernel_rfl

def types : List TypeId := [43, 3, 9, 41, 89, 4]

set_option maxRecDepth 100000 in
theorem lifted (os : Os) (started : os.Started) (H : Type) (enc : TypeId × Value → H) :
    ReturnsInHanded {} Try.checked os 7 .any (Rows.fnExactSameResponseSpec.pre6 enc Try.prog Try.f7 Rows.fnExactSameResponseRow.domain false) (Rows.fnExactSameResponseSpec.post enc Try.prog Try.f7 false true false false) := by
  refine returnsInHanded_of_change (C := Try.checked) own started (by kernel_rfl) Try.func7
    (ChangeSpec.witness6 (enc := enc) (C := Try.checked) false ⟨#[], #[.agg #[.int .i64 0, .slice none 0 0, .string ⟨#[]⟩], .agg #[.int .i64 0, .slice none 0 0, .string ⟨#[]⟩]], []⟩ 8 (by kernel_rfl) (by kernel_rfl) (by kernel_rfl) (by kernel_rfl)) ?_
  intro W base args ds gs before hval0 hW hcnd _
  have hval : ∀ (j : Nat) t v, Try.f7.params[j]? = some t → args[j]? = some v → Value.okWide Try.prog W .any base t v := hval0
  refine law_post (rs := types) (bt := 4) (by kernel_rfl) (by kernel_rfl) (fun t ht => ?_) Try.underlying4 (by kernel_rfl) rfl (fun ds hds => ?_) hW hval fun l has => ?_
  · rw [Try.params7] at ht
    simp at ht
    first
      | (subst ht; exact ⟨by simp [types], by kernel_rfl, of_decide_eq_true (by kernel_rfl)⟩)
      | (rcases ht with rfl | rfl <;> exact ⟨by simp [types], by kernel_rfl, of_decide_eq_true (by kernel_rfl)⟩)
      | (rcases ht with rfl | rfl | rfl <;> exact ⟨by simp [types], by kernel_rfl, of_decide_eq_true (by kernel_rfl)⟩)
      | (rcases ht with rfl | rfl | rfl | rfl <;> exact ⟨by simp [types], by kernel_rfl, of_decide_eq_true (by kernel_rfl)⟩)
  · rw [← Array.length_toList, Try.params7] at hds
    match ds, hds with
    | [d0, d1], _ => exact ⟨rfl, rfl, rfl⟩
  · rw [Try.params7] at has
    cases has with
    | cons h0 has =>
      cases has with
      | cons h1 has =>
        cases has
        obtain ⟨n0, h0⟩ := h0
        rw [if_pos (by decide)] at h0
        obtain ⟨as0, rfl, h0⟩ := h0
        obtain ⟨s0, rfl, k0⟩ := TResponse.sh _ _ h0
        obtain ⟨n1, h1⟩ := h1
        rw [if_pos (by decide)] at h1
        obtain ⟨as1, rfl, h1⟩ := h1
        obtain ⟨s1, rfl, k1⟩ := TResponse.sh _ _ h1
        exact A.law_same k0 k1 _

theorem over : Rows.fnExactSameResponseRow.holds Try.pinned (OpenSpec.ofChange Rows.fnExactSameResponseSpec) :=
  OpenClaim.holds_of_wide 7 Try.f7 rfl rfl rfl rfl rfl rfl rfl ⟨rfl, rfl, rfl, rfl, rfl⟩ rfl rfl rfl rfl rfl (by kernel_rfl) Try.func7 (by kernel_rfl)
    (of_decide_eq_true (by kernel_rfl)) (by unfold Func.isWrapper; first | (rw [if_pos (by decide +kernel)]; kernel_rfl) | (rw [if_neg (by decide +kernel)]; exact ⟨rfl, rfl⟩))
    (fun os started H enc _ => lifted os started H enc)

/-- THE STATEMENT -/
theorem proved : Rows.FnExactSameResponseSaid :=
  over
#print axioms proved
end Go.Proofs.Ytbjefkkbmbgakaa.fnExactSameResponse
