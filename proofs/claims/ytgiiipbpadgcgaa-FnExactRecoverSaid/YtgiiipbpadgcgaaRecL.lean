/-
  The law of Recover answers true. No condition.
-/
import Derived.Test.YtgiiipbpadgcgaaRec
namespace Go.Proofs.Ytgiiipbpadgcgaa
namespace A
set_option linter.unusedVariables false
set_option linter.unusedSimpArgs false
set_option maxRecDepth 100000

theorem spec_rec {s : SL TLine} {owner : Int} (hn : s.list.length ≤ 1048576) (hz : ∀ x, x ∈ s.list → x.Words.list.length ≤ 1048576) : Tr Try.prog 54 [s.av 4 TLine.enc, .int .i64 owner] fun _ r => ∃ b : SL TLine, r = b.av 4 TLine.enc ∧ b.list.map TLine.con = (recover owner s.list).map TLine.con := line_tr (spec_recO hn hz)
theorem impl_rec {s : SL TLine} {owner : Int} (hn : s.list.length ≤ 1048576) (hz : ∀ x, x ∈ s.list → x.Words.list.length ≤ 1048576) : Tr Try.prog 55 [s.av 4 TLine.enc, .int .i64 owner] fun _ r => ∃ b : SL TLine, r = b.av 4 TLine.enc ∧ b.list.map TLine.con = (recover owner s.list).map TLine.con := line_tr (impl_recO hn hz)

theorem size_recover (owner : Int) (l : List TLine) : (recover owner l).length + szL TLine.sz (recover owner l) ≤ l.length + szL TLine.sz l := by
  unfold recover
  split
  · have : ∀ l : List TLine, szL TLine.sz (l.map (recL owner)) ≤ szL TLine.sz l := fun l => by
      induction l with
      | nil => simp [szL]
      | cons x l ih =>
        have hx : (recL owner x).sz ≤ x.sz := by
          unfold recL
          split
          · exact Nat.zero_le _
          · exact Nat.le_refl _
        simp only [szL, List.map_cons, List.sum_cons] at ih ⊢; omega
    have := this l
    simp; exact this
  · exact Nat.le_refl _
theorem size_lcon {l m : List TLine} (h : l.map TLine.con = m.map TLine.con) : l.length + szL TLine.sz l = m.length + szL TLine.sz m := by
  have h1 := szLineS_con (s := .mk 0 l) (t := .mk 0 m) h
  exact h1

theorem law_rec {s : SL TLine} {owner : Int} (hs : okLineS s) (hw1 : IOk .i64 owner) (c : Nat) : Con Try.prog 12 [s.av 4 TLine.enc, .int .i64 owner] [] c fun r H' _ => r = .bool true ∧ H' = [] := by
  refine con_of c12 (by simp [F12]) ?_
  unfold F12
  simp
  refine call_fn0 (szLineS_fn hs ⟨by omega, by omega⟩) .int fun _ _ => ?_
  simp
  refine ⟨fun _ => fin_plain ⟨rfl, rfl⟩, fun h => ?_⟩
  have hz : szLineS s ≤ 1048576 := by have := (szOf_ge h).2; omega
  have hz0 : s.list.length + szL TLine.sz s.list ≤ 1048576 := hz
  have hb : ∀ b : SL TLine, b.list.map TLine.con = s.list.map TLine.con → szL cLine b.list ≤ 8388608 ∧ (∀ x, x ∈ b.list → x.Words.list.length ≤ 1048576) ∧ b.list.length ≤ 1048576 := fun b hb => szLine_bounds (by have := size_lcon hb; omega)
  have hr : ∀ b : SL TLine, b.list.map TLine.con = (recover owner s.list).map TLine.con → szL cLine b.list ≤ 8388608 ∧ (∀ x, x ∈ b.list → x.Words.list.length ≤ 1048576) ∧ b.list.length ≤ 1048576 := fun b hb => szLine_bounds (by have := size_lcon hb; have := size_recover owner s.list; omega)
  have hsz : ∀ b : SL TLine, b.list.map TLine.con = s.list.map TLine.con → szLineS b ≤ 1099511627776 := fun b hb => by have := size_lcon hb; unfold szLineS; omega
  have hrz : ∀ b : SL TLine, b.list.map TLine.con = (recover owner s.list).map TLine.con → szLineS b ≤ 1099511627776 := fun b hb => by have := size_lcon hb; have := size_recover owner s.list; unfold szLineS; omega
  have hrc : ∀ b : SL TLine, b.list.map TLine.con = s.list.map TLine.con → (recover owner b.list).map TLine.con = (recover owner s.list).map TLine.con := fun b hb => recover_con hb
  refine call_tree0 (toLineS_fn hz) fun r1 _ _ ⟨b1, e1, q1⟩ _ => ?_
  subst e1
  simp
  refine call_tree0 (spec_rec (hb _ q1).2.2 (hb _ q1).2.1) fun r2 _ _ ⟨w, e2, q2⟩ _ => ?_
  subst e2
  rw [hrc _ q1] at q2
  simp
  refine call_new (toLineSO hz _) (Views.refl _ _) fun r3 O c3 hc3 ⟨x, e3, hO, q3⟩ _ _ => ?_
  subst e3; subst hO
  refine ⟨_, .refl _, free_ref _ _ _, fun o ho => free_wood TLine.freeO TLine.freeI _ o ho _, ?_⟩
  simp
  refine call_new (impl_recO (s := x) (hb _ q3).2.2 (hb _ q3).2.1 _) (.cons (view_line (fun _ h => h)) (Views.refl _ _)) fun r4 O c4 hc4 ⟨g, e4, hO, q4⟩ _ _ => ?_
  subst e4; subst hO
  rw [hrc _ q3] at q4
  refine ⟨_, .refl _, free_ref _ _ _, fun o ho => free_wood TLine.freeO TLine.freeI _ o ho _, ?_⟩
  simp
  refine call_fn (eqLineS_fn (s := g) (t := w) (hrz _ q4) (by rw [q4, q2])) (.cons (view_line (fun _ h => List.mem_append_right _ h)) (.cons (.refl _) .nil)) .bool fun _ _ => ?_
  simp
  refine call_tree0 (toLineS_fn hz) fun r5 _ _ ⟨b5, e5, q5⟩ _ => ?_
  subst e5
  simp
  refine call_fn (eqLineS_fn (s := x) (t := b5) (hsz _ q3) (by rw [q3, q5])) (.cons (view_line (fun _ h => List.mem_append_left _ h)) (.cons (.refl _) .nil)) .bool fun _ _ => ?_
  simp
  refine line_first (hb _ q3).1 (hb _ q3).2.1 fun _ _ => ?_
  have hk1 : ¬ ((1 : Int) + (szL cLine x.list : Int) < 0) := by omega
  have hk2 : ¬ ((1 : Int) + (szL cLine g.list : Int) < 0) := by omega
  simp [hk1]
  refine call_fn (eqLineS_fn (s := g) (t := w) (hrz _ q4) (by rw [q4, q2])) (.cons (view_line (fun _ h => List.mem_append_right _ h)) (.cons (.refl _) .nil)) .bool fun _ _ => ?_
  simp [hk1]
  refine line_last (hr _ q4).1 (hr _ q4).2.1 fun _ _ => ?_
  simp [hk1]
  refine call_fn (heldLine_fn (s := g) (hr _ q4).1 (hr _ q4).2.1 ⟨by omega, by omega⟩) (.cons (view_lmarks (fun _ h => List.mem_append_right _ h)) (.cons (.refl _) .nil)) .int fun _ _ => ?_
  simp [hk2]
  refine call_tree0 (toLineS_fn hz) fun r6 _ _ ⟨b6, e6, q6⟩ _ => ?_
  subst e6
  simp
  refine call_tree0 (impl_rec (s := b6) (hb _ q6).2.2 (hb _ q6).2.1) fun r7 _ _ ⟨y, e7, q7⟩ _ => ?_
  subst e7
  rw [hrc _ q6] at q7
  simp
  refine call_fn0 (eqLineS_fn (s := y) (t := w) (hrz _ q7) (by rw [q7, q2])) .bool fun _ _ => ?_
  simp
  refine call_fn (heldLine_fn (s := g) (hr _ q4).1 (hr _ q4).2.1 ⟨by omega, by omega⟩) (.cons (view_lmarks (fun _ h => List.mem_append_right _ h)) (.cons (.refl _) .nil)) .int fun _ _ => ?_
  simp [hk2]
  exact fin_plain ⟨rfl, rfl⟩
end A
end Go.Proofs.Ytgiiipbpadgcgaa
