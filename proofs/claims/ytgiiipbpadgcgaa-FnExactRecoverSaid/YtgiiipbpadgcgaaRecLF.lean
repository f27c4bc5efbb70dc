/-
  FnExactRecover: for all arguments the program's Recover and the reference's give the same, and the result is its own, so the law returns true. No condition.
-/
import Derived.Test.YtgiiipbpadgcgaaRecL
import Derived.OpenShut
import Derived.Test.YtgiiipbpadgcgaaClosed
namespace Go.Proofs.Ytgiiipbpadgcgaa.fnExactRecover
open Go.ChangeShapes Go.WideShapes Go.ChangeAt Go.RowKit
open Go.Proofs.Ytgiiipbpadgcgaa.A
set_option linter.unusedVariables false

theorem own : ownKnob Try.prog.godebug = none := by kernel_rfl

def types : List TypeId := [34, 117, 3, 36, 4]

set_option maxRecDepth 100000 in
theorem lifted (os : Os) (started : os.Started) (H : Type) (enc : TypeId × Value → H) :
    ReturnsInHanded {} Try.checked os 12 .any (Rows.fnExactRecoverSpec.pre6 enc Try.prog Try.f12 Rows.fnExactRecoverRow.domain false) (Rows.fnExactRecoverSpec.post enc Try.prog Try.f12 false true false false) := by
  refine returnsInHanded_of_change (C := Try.checked) own started (by kernel_rfl) Try.func12
    (ChangeSpec.witness6 (enc := enc) (C := Try.checked) false ⟨#[], #[.slice none 0 0, .int .i64 0], []⟩ 8 (by kernel_rfl) (by kernel_rfl) (by kernel_rfl) (by kernel_rfl)) ?_
  intro W base args ds gs before hval0 hW hcnd _
  have hval : ∀ (j : Nat) t v, Try.f12.params[j]? = some t → args[j]? = some v → Value.okWide Try.prog W .any base t v := hval0
  refine law_post (rs := types) (bt := 4) (by kernel_rfl) (by kernel_rfl) (fun t ht => ?_) Try.underlying4 (by kernel_rfl) rfl (fun ds hds => ?_) hW hval fun l has => ?_
  · rw [Try.params12] at ht
    simp at ht
    first
      | (subst ht; exact ⟨by simp [types], by kernel_rfl, of_decide_eq_true (by kernel_rfl)⟩)
      | (rcases ht with rfl | rfl <;> exact ⟨by simp [types], by kernel_rfl, of_decide_eq_true (by kernel_rfl)⟩)
      | (rcases ht with rfl | rfl | rfl <;> exact ⟨by simp [types], by kernel_rfl, of_decide_eq_true (by kernel_rfl)⟩)
      | (rcases ht with rfl | rfl | rfl | rfl <;> exact ⟨by simp [types], by kernel_rfl, of_decide_eq_true (by kernel_rfl)⟩)
      | (rcases ht with rfl | rfl | rfl | rfl | rfl <;> exact ⟨by simp [types], by kernel_rfl, of_decide_eq_true (by kernel_rfl)⟩)
      | (rcases ht with rfl | rfl | rfl | rfl | rfl | rfl <;> exact ⟨by simp [types], by kernel_rfl, of_decide_eq_true (by kernel_rfl)⟩)
  · rw [← Array.length_toList, Try.params12] at hds
    match ds, hds with
    | [d0, d1], _ => exact ⟨rfl, rfl, rfl⟩
  · rw [Try.params12] at has
    cases has with
    | cons h0 has =>
      cases has with
      | cons h1 has =>
        cases has
        obtain ⟨n0, h0⟩ := h0
        rw [if_neg (by decide)] at h0
        obtain ⟨s0, rfl, k0⟩ := shLineS h0
        obtain ⟨n1, h1⟩ := h1
        rw [if_neg (by decide)] at h1
        obtain ⟨s1, rfl, k1⟩ := sh_int (k := .i64) (t := 3) (by kernel_rfl) h1
        exact A.law_rec k0 k1 _

set_option maxHeartbeats 4000000 in
theorem facts : joinedFacts Try.pinned.checked.prog 12 Try.f12 Rows.fnExactRecoverSpec Rows.fnExactRecoverRow = true := by
  unfold joinedFacts
  rw [Closed.heard, Closed.enter, Closed.lifts, Closed.make]
  simp only [Bool.and_eq_true]
  iterate 6 (refine ⟨?_, by as_aux_lemma => kernel_rfl⟩)
  refine ⟨⟨?_, trivial⟩, trivial⟩
  iterate 23 (refine ⟨?_, by as_aux_lemma => kernel_rfl⟩)
  kernel_rfl
theorem named : Try.pinned.checked.prog.funcNamed Rows.fnExactRecoverRow.func = some 12 := by kernel_rfl
theorem inst : Try.f12.isInstance Try.pinned.checked.prog Rows.fnExactRecoverRow.origin Rows.fnExactRecoverRow.targs := of_decide_eq_true (by kernel_rfl)
theorem wrap : Try.f12.isWrapper Try.pinned.checked.prog Rows.fnExactRecoverRow.wrapper Rows.fnExactRecoverRow.mainSum := by
  unfold Func.isWrapper
  first
    | (rw [if_pos (by decide +kernel)]; kernel_rfl)
    | (rw [if_neg (by decide +kernel)]; exact ⟨rfl, rfl⟩)

theorem over : Rows.fnExactRecoverRow.holds Try.pinned (OpenSpec.ofChange Rows.fnExactRecoverSpec) :=
  OpenClaim.holds_of_wide 12 Try.f12 rfl rfl rfl rfl rfl rfl rfl ⟨rfl, rfl, rfl, rfl, rfl⟩ rfl rfl rfl rfl rfl named Try.func12 facts inst wrap
    (fun os started H enc _ => lifted os started H enc)

/-- THE STATEMENT -/
theorem proved : Rows.FnExactRecoverSaid :=
  over
#print axioms proved
end Go.Proofs.Ytgiiipbpadgcgaa.fnExactRecover
