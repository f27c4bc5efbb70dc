import Derived.Test.YtknpgemlpbclkaaGreatDoorRows
import Derived.OpenShut
import Derived.ProofKit
import Derived.LaidMore
import Derived.Lay
import Derived.LaidLaws
import Derived.LaidSub
import Derived.SevenTiedAt
import Derived.Stop.Joined
import Derived.Lib.LaidTab
import Derived.Test.YtknpgemlpbclkaaGreatDoorTie
import Derived.Test.YtknpgemlpbclkaaGreatDoorCards
import Derived.Test.YtknpgemlpbclkaaGreatDoorB10

/-
  Facts of the whole program that every row of the seat asks, each worked out once. No condition.
-/


namespace Go.Proofs.YtknpgemlpbclkaaGreatDoor.Closed
open Go.ChangeShapes Go.WideShapes Go.RowKit
theorem heard : Tryz.pinned.checked.prog.stopsHeard = true := by kernel_rfl
theorem enter : Tryz.pinned.checked.prog.mayEnter = true := by kernel_rfl
theorem make : Tryz.pinned.checked.prog.make = some Rows.fnExactIsServerRow.make := by kernel_rfl
theorem lifts : Tryz.pinned.checked.prog.liftsFinal = Rows.fnExactIsServerRow.lifted := by kernel_rfl
end Go.Proofs.YtknpgemlpbclkaaGreatDoor.Closed

/-
  FnExactSubmitJob: the program's and the reference's give the same, for all arguments. No condition.
-/














namespace Go.Proofs.YtknpgemlpbclkaaGreatDoor.fnExactSubmitJob
open Go.ChangeShapes Go.WideShapes Go.ChangeAt Go.RowKit
open Go.Proofs.YtknpgemlpbclkaaGreatDoor.A
set_option linter.unusedVariables false

theorem own : ownKnob Tryz.prog.godebug = none := by kernel_rfl

def types : List TypeId := [29, 22, 113, 9, 3, 23, 115, 77, 24, 117, 25, 120, 45, 43, 152, 26, 123, 27, 129, 127, 125, 202, 4]

set_option maxRecDepth 100000 in
theorem lifted (os : Os) (started : os.Started) (H : Type) (enc : TypeId × Value → H) :
    ReturnsInHanded {} Tryz.checked os 4 .any (fun w args => (Rows.fnExactSubmitJobSpec.pre enc Tryz.prog Tryz.f4 Rows.fnExactSubmitJobRow.domain false w args ∧ laidMetH Tryz.prog Rows.fnExactSubmitJobRow.laid w) ∧ sizedMet enc Tryz.prog Tryz.f4 (OpenSpec.ofChange Rows.fnExactSubmitJobSpec) false w args) (Rows.fnExactSubmitJobSpec.post enc Tryz.prog Tryz.f4 false true false false) := by
  refine A.returns_shaped (C := Tryz.checked) (X := fun w _ => laidMetH Tryz.prog Rows.fnExactSubmitJobRow.laid w) (fun _ _ _ hh h => h.of_heap hh) own started (by kernel_rfl) Tryz.func4
    (ChangeSpec.witness_shaped (enc := enc) (C := Tryz.checked) (os := os) (X := fun w _ => laidMetH Tryz.prog Rows.fnExactSubmitJobRow.laid w) false (World.laidAll Tryz.prog os Rows.fnExactSubmitJobRow.laid) #[.agg #[.slice none 0 0, .slice none 0 0, .slice none 0 0, .slice none 0 0, .slice none 0 0, .slice none 0 0, .int .i64 0, .int .i64 0], .agg #[.string ⟨#[]⟩, .slice none 0 0, .slice none 0 0], .string ⟨#[]⟩] 8 (World.laidAll_os _ _ _)
      (World.shaped_of_ZipB (by kernel_rfl) (by kernel_rfl)) (by kernel_rfl) (by kernel_rfl) (by kernel_rfl)
      (by rw [MakeChecks.laidMetH_plain _ _ _ (by kernel_rfl)]; exact laidMet_laidAll _ (by kernel_rfl) (by kernel_rfl))) ?_
  intro W base args ds gs before hval0 hW hcnd hL hsh
  obtain ⟨m, hm⟩ := Tryz.laysM146.s1_3 W hsh
  have hg : ∀ b, b < NB → b < W.heap.size ∧ GL b W.heap[b]? := by
    obtain ⟨h0, c, t, fr, hc, hcm⟩ := cell_block hm
    intro b hb
    have hb0 : b = 0 := Nat.lt_one_iff.1 hb
    subst hb0
    exact ⟨h0, c, t, fr, m, hc, hcm⟩
  have hval : ∀ (j : Nat) t v, Tryz.f4.params[j]? = some t → args[j]? = some v → Value.okWide Tryz.prog W .any base t v := hval0
  refine law_post (rs := types) (bt := 4) (by kernel_rfl) (by kernel_rfl) (fun t ht => ?_) Tryz.underlying4 (by kernel_rfl) rfl (fun ds hds => ?_) hW hval (fun l has => ?_) hg
  · rw [Tryz.params4] at ht
    simp at ht
    first
      | (subst ht; exact ⟨by simp [types], by kernel_rfl, of_decide_eq_true (by kernel_rfl)⟩)
      | (rcases ht with rfl | rfl <;> exact ⟨by simp [types], by kernel_rfl, of_decide_eq_true (by kernel_rfl)⟩)
      | (rcases ht with rfl | rfl | rfl <;> exact ⟨by simp [types], by kernel_rfl, of_decide_eq_true (by kernel_rfl)⟩)
      | (rcases ht with rfl | rfl | rfl | rfl <;> exact ⟨by simp [types], by kernel_rfl, of_decide_eq_true (by kernel_rfl)⟩)
      | (rcases ht with rfl | rfl | rfl | rfl | rfl <;> exact ⟨by simp [types], by kernel_rfl, of_decide_eq_true (by kernel_rfl)⟩)
      | (rcases ht with rfl | rfl | rfl | rfl | rfl | rfl <;> exact ⟨by simp [types], by kernel_rfl, of_decide_eq_true (by kernel_rfl)⟩)
  · rw [← Array.length_toList, Tryz.params4] at hds
    match ds, hds with
    | [d0, d1, d2], _ => exact ⟨rfl, rfl, rfl⟩
  · rw [Tryz.params4] at has
    cases has with
    | cons h0 has =>
      cases has with
      | cons h1 has =>
        cases has with
        | cons h2 has =>
          cases has
          obtain ⟨n0, h0⟩ := h0
          rw [if_pos (by decide)] at h0
          obtain ⟨as0, rfl, h0⟩ := h0
          obtain ⟨s0, rfl, k0⟩ := TServer.sh _ _ h0
          obtain ⟨n1, h1⟩ := h1
          rw [if_pos (by decide)] at h1
          obtain ⟨as1, rfl, h1⟩ := h1
          obtain ⟨s1, rfl, k1⟩ := TRequest.sh _ _ h1
          obtain ⟨n2, h2⟩ := h2
          rw [if_neg (by decide)] at h2
          obtain ⟨s2, rfl, k2⟩ := sh_str (t := 9) (by kernel_rfl) h2
          exact A.law_sub k0 k1 k2 _

set_option maxHeartbeats 4000000 in
theorem facts : joinedFacts Tryz.pinned.checked.prog 4 Tryz.f4 Rows.fnExactSubmitJobSpec Rows.fnExactSubmitJobRow = true := by
  unfold joinedFacts
  rw [Closed.heard, Closed.enter, Closed.lifts, Closed.make]
  simp only [Bool.and_eq_true]
  iterate 6 (refine ⟨?_, by as_aux_lemma => kernel_rfl⟩)
  refine ⟨⟨?_, trivial⟩, trivial⟩
  iterate 23 (refine ⟨?_, by as_aux_lemma => kernel_rfl⟩)
  kernel_rfl
theorem named : Tryz.pinned.checked.prog.funcNamed Rows.fnExactSubmitJobRow.func = some 4 := by kernel_rfl
theorem inst : Tryz.f4.isInstance Tryz.pinned.checked.prog Rows.fnExactSubmitJobRow.origin Rows.fnExactSubmitJobRow.targs := of_decide_eq_true (by kernel_rfl)
theorem wrap : Tryz.f4.isWrapper Tryz.pinned.checked.prog Rows.fnExactSubmitJobRow.wrapper Rows.fnExactSubmitJobRow.mainSum := by
  unfold Func.isWrapper
  first
    | (rw [if_pos (by decide +kernel)]; kernel_rfl)
    | (rw [if_neg (by decide +kernel)]; exact ⟨rfl, rfl⟩)

theorem over : Rows.fnExactSubmitJobRow.holds Tryz.pinned (OpenSpec.ofChange Rows.fnExactSubmitJobSpec) :=
  OpenClaim.holds_of_wide 4 Tryz.f4 rfl rfl rfl rfl rfl rfl rfl ⟨rfl, rfl, rfl, rfl, rfl⟩ rfl rfl rfl rfl rfl named Tryz.func4 facts inst wrap
    (fun os started H enc _ => lifted os started H enc)

theorem row : Rows.FnExactSubmitJobSaid := over
/-- THE STATEMENT -/
theorem proved : Rows.FnExactSubmitJobCardSaid :=
  Claim7.holds_tied_plain_at .later [] [.data, .pinned] true Rows.fnExactSubmitJobCard.stood.harness false row (fun _ h => by cases h) (by kernel_rfl) (fun _ h => by cases h) fnExactSubmitJob_row_tie rfl ⟨rfl, rfl⟩ (by kernel_rfl) rfl
    (fun f fn hf hfn => by
      obtain rfl : f = 4 := Option.some.inj (named.symm.trans hf) |>.symm
      obtain rfl : fn = Tryz.f4 := (Option.some.inj (Tryz.func4.symm.trans hfn)).symm
      exact ⟨by kernel_rfl, fun j t ht => by
        rw [Tryz.params4] at ht
        have hm : t ∈ [29, 45, 9] := by simpa using Array.mem_of_getElem? ht
        have hall : ([29, 45, 9].all fun u => !Tryz.prog.wantsStandIn u) = true := by kernel_rfl
        exact (show Tryz.prog.wantsStandIn t = false by simpa using List.all_eq_true.1 hall t hm)⟩)
    (by kernel_rfl)
#print axioms proved
end Go.Proofs.YtknpgemlpbclkaaGreatDoor.fnExactSubmitJob
