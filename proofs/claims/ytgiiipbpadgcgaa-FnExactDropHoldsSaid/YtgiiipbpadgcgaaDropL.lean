/-
  The law of DropHolds answers true. No condition.
-/
import Derived.Test.YtgiiipbpadgcgaaDrop
namespace Go.Proofs.Ytgiiipbpadgcgaa
namespace A
set_option linter.unusedVariables false
set_option linter.unusedSimpArgs false
set_option maxRecDepth 100000

theorem toSessionSO {s : SL TSession} (h : szSessionS s ≤ 1048576) (c : Nat) : Con Try.prog 21 [s.av 4 TSession.enc] [] c fun r H' _ => ∃ b : SL TSession, r = b.ref 4 ∧ H' = b.wood 4 TSession.enc noInn ∧ b.list.map TSession.con = s.list.map TSession.con := by
  unfold szSessionS at h
  exact toSO_fn (g := 81) (z := [.str [], .str [], .int .i64 0, .int .i64 0]) (bytes := 48) c21 rfl (fun _ => rfl) (fun _ => rfl) (fun x a ha => (TSession.flat x a ha).2) (fun x o ho => by cases ho) (by omega) (by omega)
    (fun x hx c => (TSession.to_fn (by have := szL_mem (sz := TSession.sz) hx; omega) c).mono fun r H' c' _ ⟨hH, ⟨b, hr, hb⟩, _⟩ => ⟨b, hr, hH, hb⟩) c
theorem sessCon {l m : List TSession} (h : l.map TSession.con = m.map TSession.con) : l = m := by
  have e : ∀ l : List TSession, l.map TSession.con = l := fun l => List.map_id' l
  rwa [e, e] at h

theorem law_drop {s : SL TSession} {who : Int} (hs : okSessionS s) (hw : IOk .i64 who) (c : Nat) : Con Try.prog 4 [s.av 4 TSession.enc, .int .i64 who] [] c fun r H' _ => r = .bool true ∧ H' = [] := by
  refine con_of c4 (by simp [F4]) ?_
  unfold F4
  simp
  refine call_fn0 (szSessionS_fn hs ⟨by omega, by omega⟩) .int fun _ _ => ?_
  simp
  refine ⟨fun _ => fin_plain ⟨rfl, rfl⟩, fun h => ?_⟩
  have hz : szSessionS s ≤ 1048576 := by have := (szOf_ge h).2; omega
  have hln : s.list.length ≤ 1048576 := by unfold szSessionS at hz; omega
  have hdrop : ∀ l : List TSession, szL TSession.sz (l.map (dropH who)) = szL TSession.sz l := szL_map (con := dropH who) fun x => by unfold dropH; split <;> rfl
  have hsz : ∀ b : SL TSession, b.list = s.list.map (dropH who) → szSessionS b ≤ 1048576 := fun b hb => by unfold szSessionS at hz ⊢; rw [hb, hdrop]; simpa using hz
  have hsz' : ∀ b : SL TSession, b.list = s.list → szSessionS b ≤ 1048576 := fun b hb => by unfold szSessionS at hz ⊢; rw [hb]; exact hz
  refine call_tree0 (toSessionS_fn hz) fun r1 _ _ ⟨b1, e1, q1⟩ _ => ?_
  subst e1
  have q1 := sessCon q1
  simp
  refine call_tree0 (spec_drop (by rw [q1]; exact hln)) fun r2 _ _ ⟨t2, e2⟩ _ => ?_
  subst e2
  simp [q1]
  refine call_new (toSessionSO hz _) (Views.refl _ _) fun r3 O c3 hc3 ⟨x, e3, hO, q3⟩ _ _ => ?_
  subst e3; subst hO
  have q3 := sessCon q3
  refine ⟨_, .refl _, free_ref _ _ _, fun o ho => flat_free TSession.flat _ _ o ho _, ?_⟩
  simp
  refine call_new (impl_dropO (s := x) (who := who) (by rw [q3]; exact hln) _) (.cons (view_flat (fun _ h => h) TSession.cells) (.cons (.refl _) .nil)) fun r4 O c4 hc4 ⟨g, e4, hO, q4⟩ _ _ => ?_
  subst e4; subst hO
  rw [q3] at q4
  refine ⟨_, .refl _, free_ref _ _ _, fun o ho => flat_free TSession.flat _ _ o ho _, ?_⟩
  simp
  refine call_fn (eqSessionS_fn (s := g) (t := .mk t2 _) (hsz _ q4) (by rw [q4]; rfl)) (.cons (view_flat (fun _ h => List.mem_append_right _ h) TSession.cells) (.cons (.refl _) .nil)) .bool fun _ _ => ?_
  simp
  refine call_tree0 (toSessionS_fn hz) fun r5 _ _ ⟨b5, e5, q5⟩ _ => ?_
  subst e5
  have q5 := sessCon q5
  simp
  refine call_fn (eqSessionS_fn (s := x) (t := b5) (hsz' _ q3) (by rw [q3, q5])) (.cons (view_flat (fun _ h => List.mem_append_left _ h) TSession.cells) (.cons (.refl _) .nil)) .bool fun _ _ => ?_
  simp
  refine mark_first TSession.flat (markSession_con (by rw [q3]; exact hln) ⟨by omega, by omega⟩ _) fun _ _ => ?_
  have hk1 : ¬ ((1 : Int) + (szL cSession x.list : Int) < 0) := by omega
  have hk2 : ¬ ((1 : Int) + (szL cSession g.list : Int) < 0) := by omega
  have hg : g.list.length ≤ 1048576 := by rw [q4]; simpa using hln
  simp [hk1]
  refine call_fn (eqSessionS_fn (s := g) (t := .mk t2 _) (hsz _ q4) (by rw [q4]; rfl)) (.cons (view_flat (fun _ h => List.mem_append_right _ h) TSession.cells) (.cons (.refl _) .nil)) .bool fun _ _ => ?_
  simp [hk1]
  refine mark_last TSession.flat (markSession_con hg ⟨by omega, by omega⟩ _) fun _ _ => ?_
  simp [hk1]
  refine call_fn (heldSession_fn hg ⟨by omega, by omega⟩) (.cons (view_marks (fun _ h => List.mem_append_right _ h) TSession.cells) (.cons (.refl _) .nil)) .int fun _ _ => ?_
  simp [hk2]
  refine call_tree0 (toSessionS_fn hz) fun r6 _ _ ⟨b6, e6, q6⟩ _ => ?_
  subst e6
  have q6 := sessCon q6
  simp
  refine call_tree0 (impl_drop (s := b6) (who := who) (by rw [q6]; exact hln)) fun r7 _ _ ⟨x7, e7, q7⟩ _ => ?_
  subst e7
  rw [q6] at q7
  simp
  refine call_fn0 (eqSessionS_fn (s := x7) (t := .mk t2 _) (hsz _ q7) (by rw [q7]; rfl)) .bool fun _ _ => ?_
  simp
  refine call_fn (heldSession_fn hg ⟨by omega, by omega⟩) (.cons (view_marks (fun _ h => List.mem_append_right _ h) TSession.cells) (.cons (.refl _) .nil)) .int fun _ _ => ?_
  simp [hk2]
  exact fin_plain ⟨rfl, rfl⟩
end A
end Go.Proofs.Ytgiiipbpadgcgaa
