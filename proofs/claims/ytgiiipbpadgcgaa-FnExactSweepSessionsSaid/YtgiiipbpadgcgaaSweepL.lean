/-
  The law of FnExactSweepSessions answers true. No condition.
-/
import Derived.Test.YtgiiipbpadgcgaaSweep
import Derived.Test.YtgiiipbpadgcgaaSessO
namespace Go.Proofs.Ytgiiipbpadgcgaa
namespace A
set_option linter.unusedVariables false
set_option linter.unusedSimpArgs false
set_option maxRecDepth 100000

theorem law_sweep {s : SL TSession} {now age : Int} (hs : okSessionS s) (hw1 : IOk .i64 now) (hw2 : IOk .i64 age) (c : Nat) : Con Try.prog 5 [s.av 4 TSession.enc, .int .i64 now, .int .i64 age] [] c fun r H' _ => r = .bool true ∧ H' = [] := by
  refine con_of c5 (by simp [F5]) ?_
  unfold F5
  simp
  refine call_fn0 (szSessionS_fn hs ⟨by omega, by omega⟩) .int fun _ _ => ?_
  simp
  refine ⟨fun _ => fin_plain ⟨rfl, rfl⟩, fun h => ?_⟩
  have hz : szSessionS s ≤ 1048576 := by have := (szOf_ge h).2; omega
  have hln : s.list.length ≤ 1048576 := by unfold szSessionS at hz; omega
  have hrl : (sweepS now age s.list).length ≤ 1048577 := by
    exact Nat.le_trans (len_sweep s.list) (by omega)
  have hsz : ∀ b : SL TSession, b.list = sweepS now age s.list → szSessionS b ≤ 1099511627776 := fun b hb => by
    have h1 := size_sweep (now := now) (age := age) s.list
    unfold szSessionS at hz ⊢; rw [hb]; omega
  have hok : ∀ b : SL TSession, b.list = s.list → okSessionS b := fun b hb => by unfold okSessionS at hs ⊢; rw [hb]; exact hs
  have hsz' : ∀ b : SL TSession, b.list = s.list → szSessionS b ≤ 1099511627776 := fun b hb => by unfold szSessionS at hz ⊢; rw [hb]; omega
  refine call_tree0 (toSessionS_fn hz) fun r1 _ _ ⟨b1, e1, q1⟩ _ => ?_
  subst e1
  have q1 := sessCon q1
  simp
  refine call_tree0 (spec_sweep (by rw [q1]; exact hln)) fun r2 _ _ ⟨w, e2, q2⟩ _ => ?_
  subst e2
  rw [q1] at q2
  simp [q1]
  refine call_new (toSessionSO hz _) (Views.refl _ _) fun r3 O c3 hc3 ⟨x, e3, hO, q3⟩ _ _ => ?_
  subst e3; subst hO
  have q3 := sessCon q3
  refine ⟨_, .refl _, free_ref _ _ _, fun o ho => flat_free TSession.flat _ _ o ho _, ?_⟩
  simp
  refine call_new (impl_sweepO (s := x) (by rw [q3]; exact hln) _) (.cons (view_flat (fun _ h => h) TSession.cells) (.cons (.refl _) (.cons (.refl _) (.nil)))) fun r4 O c4 hc4 ⟨g, e4, hO, q4⟩ _ _ => ?_
  subst e4; subst hO
  rw [q3] at q4
  refine ⟨_, .refl _, free_ref _ _ _, fun o ho => flat_free TSession.flat _ _ o ho _, ?_⟩
  simp [q3]
  refine call_fn (eqSessionS_fn (s := g) (t := w) (hsz _ q4) (by rw [q4, q2])) (.cons (view_flat (fun _ h => List.mem_append_right _ h) TSession.cells) (.cons (.refl _) .nil)) .bool fun _ _ => ?_
  simp
  refine call_tree0 (toSessionS_fn hz) fun r5 _ _ ⟨b5, e5, q5⟩ _ => ?_
  subst e5
  have q5 := sessCon q5
  simp
  refine call_fn (eqSessionS_fn (s := x) (t := b5) (hsz' _ q3) (by rw [q3, q5])) (.cons (view_flat (fun _ h => List.mem_append_left _ h) TSession.cells) (.cons (.refl _) .nil)) .bool fun _ _ => ?_
  simp
  refine mark_first TSession.flat (markSession_con (by rw [q3]; omega) ⟨by omega, by omega⟩ _) fun _ _ => ?_
  have hk1 : ¬ ((1 : Int) + (szL cSession x.list : Int) < 0) := by omega
  have hk2 : ¬ ((1 : Int) + (szL cSession g.list : Int) < 0) := by omega
  have hg : g.list.length ≤ 2097152 := by rw [q4]; omega
  simp [hk1]
  refine call_fn (eqSessionS_fn (s := g) (t := w) (hsz _ q4) (by rw [q4, q2])) (.cons (view_flat (fun _ h => List.mem_append_right _ h) TSession.cells) (.cons (.refl _) .nil)) .bool fun _ _ => ?_
  simp [hk1]
  refine mark_last TSession.flat (markSession_con hg ⟨by omega, by omega⟩ _) fun _ _ => ?_
  simp [hk1]
  refine call_fn (heldSession_fn hg ⟨by omega, by omega⟩) (.cons (view_marks (fun _ h => List.mem_append_right _ h) TSession.cells) (.cons (.refl _) .nil)) .int fun _ _ => ?_
  simp [hk2]
  refine call_tree0 (toSessionS_fn hz) fun r6 _ _ ⟨b6, e6, q6⟩ _ => ?_
  subst e6
  have q6 := sessCon q6
  simp
  refine call_tree0 (impl_sweep (s := b6) (by rw [q6]; exact hln)) fun r7 _ _ ⟨y, e7, q7⟩ _ => ?_
  subst e7
  rw [q6] at q7
  simp [q6]
  refine call_fn0 (eqSessionS_fn (s := y) (t := w) (hsz _ q7) (by rw [q7, q2])) .bool fun _ _ => ?_
  simp
  refine call_fn (heldSession_fn hg ⟨by omega, by omega⟩) (.cons (view_marks (fun _ h => List.mem_append_right _ h) TSession.cells) (.cons (.refl _) .nil)) .int fun _ _ => ?_
  simp [hk2]
  exact fin_plain ⟨rfl, rfl⟩
end A
end Go.Proofs.Ytgiiipbpadgcgaa
