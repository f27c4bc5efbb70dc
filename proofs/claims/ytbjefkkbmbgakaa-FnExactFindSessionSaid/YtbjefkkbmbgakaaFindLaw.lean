/-
  FnExactFindSession: for every list of sessions and every name the program's FindSession and the reference's answer the same, so the law returns true. No condition.
-/
import Derived.Test.YtbjefkkbmbgakaaFind
import Derived.OpenShut
namespace Go.Proofs.Ytbjefkkbmbgakaa.fnExactFindSession
open Go.ChangeShapes Go.WideShapes Go.ChangeAt Go.RowKit
open Go.Proofs.Ytbjefkkbmbgakaa.A
set_option linter.unusedVariables false

theorem own : ownKnob Try.prog.godebug = none := by kernel_rfl

def types : List TypeId := [24, 60, 9, 3, 4]

set_option maxRecDepth 100000 in
theorem lifted (os : Os) (started : os.Started) (H : Type) (enc : TypeId × Value → H) :
    ReturnsInHanded {} Try.checked os 4 .any (Rows.fnExactFindSessionSpec.pre6 enc Try.prog Try.f4 Rows.fnExactFindSessionRow.domain false) (Rows.fnExactFindSessionSpec.post enc Try.prog Try.f4 false true false false) := by
  refine returnsInHanded_of_change (C := Try.checked) own started (by kernel_rfl) Try.func4
    (ChangeSpec.witness6 (enc := enc) (C := Try.checked) false ⟨#[], #[.slice none 0 0, .string ⟨#[]⟩], []⟩ 8 (by kernel_rfl) (by kernel_rfl) (by kernel_rfl) (by kernel_rfl)) ?_
  intro W base args ds gs before hval0 hW hcnd _
  have hval : ∀ (j : Nat) t v, Try.f4.params[j]? = some t → args[j]? = some v → Value.okWide Try.prog W .any base t v := hval0
  refine law_post (rs := types) (bt := 4) (by kernel_rfl) (by kernel_rfl) (fun t ht => ?_) Try.underlying4 (by kernel_rfl) rfl (fun ds hds => ?_) hW hval fun l has => ?_
  · rw [Try.params4] at ht
    simp at ht
    first
      | (subst ht; exact ⟨by simp [types], by kernel_rfl, of_decide_eq_true (by kernel_rfl)⟩)
      | (rcases ht with rfl | rfl <;> exact ⟨by simp [types], by kernel_rfl, of_decide_eq_true (by kernel_rfl)⟩)
      | (rcases ht with rfl | rfl | rfl <;> exact ⟨by simp [types], by kernel_rfl, of_decide_eq_true (by kernel_rfl)⟩)
      | (rcases ht with rfl | rfl | rfl | rfl <;> exact ⟨by simp [types], by kernel_rfl, of_decide_eq_true (by kernel_rfl)⟩)
  · rw [← Array.length_toList, Try.params4] at hds
    match ds, hds with
    | [d0, d1], _ => exact ⟨rfl, rfl, rfl⟩
  · rw [Try.params4] at has
    cases has with
    | cons h0 has =>
      cases has with
      | cons h1 has =>
        cases has
        obtain ⟨n0, h0⟩ := h0
        rw [if_neg (by decide)] at h0
        obtain ⟨s0, rfl, k0⟩ := shSessionS h0
        obtain ⟨n1, h1⟩ := h1
        rw [if_neg (by decide)] at h1
        obtain ⟨s1, rfl, k1⟩ := sh_str (t := 9) (by kernel_rfl) h1
        exact A.law_find k0 k1 _

theorem over : Rows.fnExactFindSessionRow.holds Try.pinned (OpenSpec.ofChange Rows.fnExactFindSessionSpec) :=
  OpenClaim.holds_of_wide 4 Try.f4 rfl rfl rfl rfl rfl rfl rfl ⟨rfl, rfl, rfl, rfl, rfl⟩ rfl rfl rfl rfl rfl (by kernel_rfl) Try.func4 (by kernel_rfl)
    (of_decide_eq_true (by kernel_rfl)) (by unfold Func.isWrapper; first | (rw [if_pos (by decide +kernel)]; kernel_rfl) | (rw [if_neg (by decide +kernel)]; exact ⟨rfl, rfl⟩))
    (fun os started H enc _ => lifted os started H enc)

/-- THE STATEMENT -/
theorem proved : Rows.FnExactFindSessionSaid :=
  over
#print axioms proved
end Go.Proofs.Ytbjefkkbmbgakaa.fnExactFindSession
