/-
  FnExactRunActors: for all lists of lines, of actors and of numbers the program's RunActors and the reference's hand back the same, so the law returns true. No condition.
-/
import Derived.Test.YtfcimcoanlgldaaRunL
import Derived.OpenShut
import Derived.Test.YtfcimcoanlgldaaClosed
namespace Go.Proofs.Ytfcimcoanlgldaa.fnExactRunActors
open Go.ChangeShapes Go.WideShapes Go.ChangeAt Go.RowKit
open Go.Proofs.Ytfcimcoanlgldaa.A
set_option linter.unusedVariables false

theorem own : ownKnob Try.prog.godebug = none := by kernel_rfl

def types : List TypeId := [22, 64, 3, 24, 23, 67, 4]

set_option maxRecDepth 100000 in
theorem lifted (os : Os) (started : os.Started) (H : Type) (enc : TypeId × Value → H) :
    ReturnsInHanded {} Try.checked os 3 .any (Rows.fnExactRunActorsSpec.pre6 enc Try.prog Try.f3 Rows.fnExactRunActorsRow.domain false) (Rows.fnExactRunActorsSpec.post enc Try.prog Try.f3 false true false false) := by
  refine returnsInHanded_of_change (C := Try.checked) own started (by kernel_rfl) Try.func3
    (ChangeSpec.witness6 (enc := enc) (C := Try.checked) false ⟨#[], #[.slice none 0 0, .slice none 0 0, .slice none 0 0], []⟩ 8 (by kernel_rfl) (by kernel_rfl) (by kernel_rfl) (by kernel_rfl)) ?_
  intro W base args ds gs before hval0 hW hcnd _
  have hval : ∀ (j : Nat) t v, Try.f3.params[j]? = some t → args[j]? = some v → Value.okWide Try.prog W .any base t v := hval0
  refine law_post (rs := types) (bt := 4) (by kernel_rfl) (by kernel_rfl) (fun t ht => ?_) Try.underlying4 (by kernel_rfl) rfl (fun ds hds => ?_) hW hval fun l has => ?_
  · rw [Try.params3] at ht
    simp at ht
    first
      | (subst ht; exact ⟨by simp [types], by kernel_rfl, of_decide_eq_true (by kernel_rfl)⟩)
      | (rcases ht with rfl | rfl <;> exact ⟨by simp [types], by kernel_rfl, of_decide_eq_true (by kernel_rfl)⟩)
      | (rcases ht with rfl | rfl | rfl <;> exact ⟨by simp [types], by kernel_rfl, of_decide_eq_true (by kernel_rfl)⟩)
      | (rcases ht with rfl | rfl | rfl | rfl <;> exact ⟨by simp [types], by kernel_rfl, of_decide_eq_true (by kernel_rfl)⟩)
      | (rcases ht with rfl | rfl | rfl | rfl | rfl <;> exact ⟨by simp [types], by kernel_rfl, of_decide_eq_true (by kernel_rfl)⟩)
      | (rcases ht with rfl | rfl | rfl | rfl | rfl | rfl <;> exact ⟨by simp [types], by kernel_rfl, of_decide_eq_true (by kernel_rfl)⟩)
  · rw [← Array.length_toList, Try.params3] at hds
    match ds, hds with
    | [d0, d1, d2], _ => exact ⟨rfl, rfl, rfl⟩
  · rw [Try.params3] at has
    cases has with
    | cons h0 has =>
      cases has with
      | cons h1 has =>
        cases has with
        | cons h2 has =>
          cases has
          obtain ⟨n0, h0⟩ := h0
          rw [if_neg (by decide)] at h0
          obtain ⟨s0, rfl, k0⟩ := shLineS h0
          obtain ⟨n1, h1⟩ := h1
          rw [if_neg (by decide)] at h1
          obtain ⟨s1, rfl, k1⟩ := shActorS h1
          obtain ⟨n2, h2⟩ := h2
          rw [if_neg (by decide)] at h2
          obtain ⟨s2, rfl, k2⟩ := shIntS h2
          exact A.law_run k0 k1 k2 _

set_option maxHeartbeats 4000000 in
theorem facts : joinedFacts Try.pinned.checked.prog 3 Try.f3 Rows.fnExactRunActorsSpec Rows.fnExactRunActorsRow = true := by
  unfold joinedFacts
  rw [Closed.heard, Closed.enter, Closed.lifts, Closed.make]
  simp only [Bool.and_eq_true]
  iterate 6 (refine ⟨?_, by as_aux_lemma => kernel_rfl⟩)
  refine ⟨⟨?_, trivial⟩, trivial⟩
  iterate 23 (refine ⟨?_, by as_aux_lemma => kernel_rfl⟩)
  kernel_rfl
theorem named : Try.pinned.checked.prog.funcNamed Rows.fnExactRunActorsRow.func = some 3 := by kernel_rfl
theorem inst : Try.f3.isInstance Try.pinned.checked.prog Rows.fnExactRunActorsRow.origin Rows.fnExactRunActorsRow.targs := of_decide_eq_true (by kernel_rfl)
theorem wrap : Try.f3.isWrapper Try.pinned.checked.prog Rows.fnExactRunActorsRow.wrapper Rows.fnExactRunActorsRow.mainSum := by
  unfold Func.isWrapper
  first
    | (rw [if_pos (by decide +kernel)]; kernel_rfl)
    | (rw [if_neg (by decide +kernel)]; exact ⟨rfl, rfl⟩)

theorem over : Rows.fnExactRunActorsRow.holds Try.pinned (OpenSpec.ofChange Rows.fnExactRunActorsSpec) :=
  OpenClaim.holds_of_wide 3 Try.f3 rfl rfl rfl rfl rfl rfl rfl ⟨rfl, rfl, rfl, rfl, rfl⟩ rfl rfl rfl rfl rfl named Try.func3 facts inst wrap
    (fun os started H enc _ => lifted os started H enc)

/-- THE STATEMENT -/
theorem proved : Rows.FnExactRunActorsSaid :=
  over
#print axioms proved
end Go.Proofs.Ytfcimcoanlgldaa.fnExactRunActors
