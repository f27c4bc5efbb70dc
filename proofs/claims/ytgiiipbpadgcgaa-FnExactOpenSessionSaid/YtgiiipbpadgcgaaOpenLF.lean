/-
  FnExactOpenSession: for all arguments the program's OpenSession and the reference's give the same, and the result is its own, so the law returns true. No condition.
-/
import Derived.Test.YtgiiipbpadgcgaaOpenL
import Derived.OpenShut
import Derived.Test.YtgiiipbpadgcgaaClosed
namespace Go.Proofs.Ytgiiipbpadgcgaa.fnExactOpenSession
open Go.ChangeShapes Go.WideShapes Go.ChangeAt Go.RowKit
open Go.Proofs.Ytgiiipbpadgcgaa.A
set_option linter.unusedVariables false

theorem own : ownKnob Try.prog.godebug = none := by kernel_rfl

def types : List TypeId := [22, 108, 9, 3, 4]

set_option maxRecDepth 100000 in
theorem lifted (os : Os) (started : os.Started) (H : Type) (enc : TypeId × Value → H) :
    ReturnsInHanded {} Try.checked os 15 .any (Rows.fnExactOpenSessionSpec.pre6 enc Try.prog Try.f15 Rows.fnExactOpenSessionRow.domain false) (Rows.fnExactOpenSessionSpec.post enc Try.prog Try.f15 false true false false) := by
  refine returnsInHanded_of_change (C := Try.checked) own started (by kernel_rfl) Try.func15
    (ChangeSpec.witness6 (enc := enc) (C := Try.checked) false ⟨#[], #[.slice none 0 0, .string ⟨#[]⟩, .int .i64 0, .int .i64 0], []⟩ 8 (by kernel_rfl) (by kernel_rfl) (by kernel_rfl) (by kernel_rfl)) ?_
  intro W base args ds gs before hval0 hW hcnd _
  have hval : ∀ (j : Nat) t v, Try.f15.params[j]? = some t → args[j]? = some v → Value.okWide Try.prog W .any base t v := hval0
  refine law_post (rs := types) (bt := 4) (by kernel_rfl) (by kernel_rfl) (fun t ht => ?_) Try.underlying4 (by kernel_rfl) rfl (fun ds hds => ?_) hW hval fun l has => ?_
  · rw [Try.params15] at ht
    simp at ht
    first
      | (subst ht; exact ⟨by simp [types], by kernel_rfl, of_decide_eq_true (by kernel_rfl)⟩)
      | (rcases ht with rfl | rfl <;> exact ⟨by simp [types], by kernel_rfl, of_decide_eq_true (by kernel_rfl)⟩)
      | (rcases ht with rfl | rfl | rfl <;> exact ⟨by simp [types], by kernel_rfl, of_decide_eq_true (by kernel_rfl)⟩)
      | (rcases ht with rfl | rfl | rfl | rfl <;> exact ⟨by simp [types], by kernel_rfl, of_decide_eq_true (by kernel_rfl)⟩)
      | (rcases ht with rfl | rfl | rfl | rfl | rfl <;> exact ⟨by simp [types], by kernel_rfl, of_decide_eq_true (by kernel_rfl)⟩)
      | (rcases ht with rfl | rfl | rfl | rfl | rfl | rfl <;> exact ⟨by simp [types], by kernel_rfl, of_decide_eq_true (by kernel_rfl)⟩)
  · rw [← Array.length_toList, Try.params15] at hds
    match ds, hds with
    | [d0, d1, d2, d3], _ => exact ⟨rfl, rfl, rfl⟩
  · rw [Try.params15] at has
    cases has with
    | cons h0 has =>
      cases has with
      | cons h1 has =>
        cases has with
        | cons h2 has =>
          cases has with
          | cons h3 has =>
            cases has
            obtain ⟨n0, h0⟩ := h0
            rw [if_neg (by decide)] at h0
            obtain ⟨s0, rfl, k0⟩ := shSessionS h0
            obtain ⟨n1, h1⟩ := h1
            rw [if_neg (by decide)] at h1
            obtain ⟨s1, rfl, k1⟩ := sh_str (t := 9) (by kernel_rfl) h1
            obtain ⟨n2, h2⟩ := h2
            rw [if_neg (by decide)] at h2
            obtain ⟨s2, rfl, k2⟩ := sh_int (k := .i64) (t := 3) (by kernel_rfl) h2
            obtain ⟨n3, h3⟩ := h3
            rw [if_neg (by decide)] at h3
            obtain ⟨s3, rfl, k3⟩ := sh_int (k := .i64) (t := 3) (by kernel_rfl) h3
            exact A.law_open k0 k1 k2 k3 _

set_option maxHeartbeats 4000000 in
theorem facts : joinedFacts Try.pinned.checked.prog 15 Try.f15 Rows.fnExactOpenSessionSpec Rows.fnExactOpenSessionRow = true := by
  unfold joinedFacts
  rw [Closed.heard, Closed.enter, Closed.lifts, Closed.make]
  simp only [Bool.and_eq_true]
  iterate 6 (refine ⟨?_, by as_aux_lemma => kernel_rfl⟩)
  refine ⟨⟨?_, trivial⟩, trivial⟩
  iterate 23 (refine ⟨?_, by as_aux_lemma => kernel_rfl⟩)
  kernel_rfl
theorem named : Try.pinned.checked.prog.funcNamed Rows.fnExactOpenSessionRow.func = some 15 := by kernel_rfl
theorem inst : Try.f15.isInstance Try.pinned.checked.prog Rows.fnExactOpenSessionRow.origin Rows.fnExactOpenSessionRow.targs := of_decide_eq_true (by kernel_rfl)
theorem wrap : Try.f15.isWrapper Try.pinned.checked.prog Rows.fnExactOpenSessionRow.wrapper Rows.fnExactOpenSessionRow.mainSum := by
  unfold Func.isWrapper
  first
    | (rw [if_pos (by decide +kernel)]; kernel_rfl)
    | (rw [if_neg (by decide +kernel)]; exact ⟨rfl, rfl⟩)

theorem over : Rows.fnExactOpenSessionRow.holds Try.pinned (OpenSpec.ofChange Rows.fnExactOpenSessionSpec) :=
  OpenClaim.holds_of_wide 15 Try.f15 rfl rfl rfl rfl rfl rfl rfl ⟨rfl, rfl, rfl, rfl, rfl⟩ rfl rfl rfl rfl rfl named Try.func15 facts inst wrap
    (fun os started H enc _ => lifted os started H enc)

/-- THE STATEMENT -/
theorem proved : Rows.FnExactOpenSessionSaid :=
  over
#print axioms proved
end Go.Proofs.Ytgiiipbpadgcgaa.fnExactOpenSession
