/-
  The laws of FormatQuery and FormatCookies answer true. No condition.
-/
import Derived.Test.YtgiiipbpadgcgaaFmt
namespace Go.Proofs.Ytgiiipbpadgcgaa
namespace A
set_option linter.unusedVariables false
set_option linter.unusedSimpArgs false
set_option maxRecDepth 100000

theorem pairCon {l m : List TPair} (h : l.map TPair.con = m.map TPair.con) : l = m := by
  have e : ∀ l : List TPair, l.map TPair.con = l := fun l => List.map_id' l
  rwa [e, e] at h
theorem law_fmtQ {s : SL TPair} (hs : okPairS s) (c : Nat) : Con Try.prog 10 [s.av 2 TPair.enc] [] c fun r H' _ => r = .bool true ∧ H' = [] := by
  refine con_of c10 (by simp [F10]) ?_
  unfold F10
  simp
  refine call_fn0 (szPairS_fn hs ⟨by omega, by omega⟩) .int fun _ _ => ?_
  simp
  refine ⟨fun _ => fin_plain ⟨rfl, rfl⟩, fun h => ?_⟩
  have hz : szPairS s ≤ 1048576 := by have := (szOf_ge h).2; omega
  have hz' : s.list.length + szL TPair.sz s.list ≤ 1048576 := hz
  refine call_tree0 (toPairS_fn hz) fun r1 _ _ ⟨b1, e1, q1⟩ _ => ?_
  subst e1
  have q1 := pairCon q1
  simp
  refine call_fn0 (spec_fmtQ (by rw [q1]; exact hz')) .str fun _ _ => ?_
  simp
  refine call_tree0 (toPairS_fn hz) fun r2 _ _ ⟨b2, e2, q2⟩ _ => ?_
  subst e2
  have q2 := pairCon q2
  simp
  refine call_fn0 (impl_fmtQ (by rw [q2]; exact hz')) .str fun _ _ => ?_
  simp [q1, q2]
  refine call_tree0 (toPairS_fn hz) fun r3 _ _ ⟨b3, e3, q3⟩ _ => ?_
  subst e3
  have q3 := pairCon q3
  simp
  refine call_fn0 (eqPairS_fn (by unfold szPairS; rw [q2]; omega) (by rw [q2, q3])) .bool fun _ _ => ?_
  simp
  exact fin_plain ⟨rfl, rfl⟩
theorem law_fmtC {s : SL TPair} (hs : okPairS s) (c : Nat) : Con Try.prog 9 [s.av 2 TPair.enc] [] c fun r H' _ => r = .bool true ∧ H' = [] := by
  refine con_of c9 (by simp [F9]) ?_
  unfold F9
  simp
  refine call_fn0 (szPairS_fn hs ⟨by omega, by omega⟩) .int fun _ _ => ?_
  simp
  refine ⟨fun _ => fin_plain ⟨rfl, rfl⟩, fun h => ?_⟩
  have hz : szPairS s ≤ 1048576 := by have := (szOf_ge h).2; omega
  have hz' : s.list.length + szL TPair.sz s.list ≤ 1048576 := hz
  refine call_tree0 (toPairS_fn hz) fun r1 _ _ ⟨b1, e1, q1⟩ _ => ?_
  subst e1
  have q1 := pairCon q1
  simp
  refine call_fn0 (spec_fmtC (by rw [q1]; exact hz')) .str fun _ _ => ?_
  simp
  refine call_tree0 (toPairS_fn hz) fun r2 _ _ ⟨b2, e2, q2⟩ _ => ?_
  subst e2
  have q2 := pairCon q2
  simp
  refine call_fn0 (impl_fmtC (by rw [q2]; exact hz')) .str fun _ _ => ?_
  simp [q1, q2]
  refine call_tree0 (toPairS_fn hz) fun r3 _ _ ⟨b3, e3, q3⟩ _ => ?_
  subst e3
  have q3 := pairCon q3
  simp
  refine call_fn0 (eqPairS_fn (by unfold szPairS; rw [q2]; omega) (by rw [q2, q3])) .bool fun _ _ => ?_
  simp
  exact fin_plain ⟨rfl, rfl⟩
end A
end Go.Proofs.Ytgiiipbpadgcgaa
