/-
  SweepSessions of the reference and of the program are the same plain function. No condition.
-/
import Derived.Test.YtgiiipbpadgcgaaMSess
import Derived.Test.YtgiiipbpadgcgaaBase
namespace Go.Proofs.Ytgiiipbpadgcgaa
namespace A
set_option linter.unusedVariables false
set_option linter.unusedSimpArgs false
set_option maxRecDepth 100000

def keepS (now age : Int) (x : TSession) : Bool := !decide (x.Holder = 0) || decide (now - age ≤ x.At)
def sweepS (now age : Int) (l : List TSession) : List TSession := if inR now 0 1000000000000 && inR age 0 1000000000000 then l.filter (keepS now age) else l

theorem spec_sweepO {s : SL TSession} {now age : Int} (hn : s.list.length ≤ 1048576) (c : Nat) : Con Try.prog 28 [s.av 4 TSession.enc, .int .i64 now, .int .i64 age] [] c fun r O _ => ∃ x : SL TSession, r = x.ref 4 ∧ O = x.wood 4 TSession.enc noInn ∧ x.list = sweepS now age s.list := by
  refine con_of c28 (by simp [F28]) ?_
  unfold F28
  simp
  refine call_fn0 (l1In_fn _ _ _) .bool fun _ _ => ?_
  have hbad : ∀ c', s.list.length * 48 ≤ 140737488355328 ∧ s.list.length ≤ mx := fun c' => ⟨by omega, by unfold mx; omega⟩
  cases h1 : inR now 0 1000000000000
  · simp
    exact ⟨by omega, by unfold mx; omega, fin_all ⟨.mk _ s.list, rfl, by simp [flat_wood], by simp [sweepS, h1]⟩⟩
  simp
  refine call_fn0 (l1In_fn _ _ _) .bool fun _ _ => ?_
  cases h2 : inR age 0 1000000000000
  · simp
    exact ⟨by omega, by unfold mx; omega, fin_all ⟨.mk _ s.list, rfl, by simp [flat_wood], by simp [sweepS, h1, h2]⟩⟩
  simp
  have g1 := inR_true h1
  have g2 := inR_true h2
  have hw : IntKind.i64.wrap (now - age) = now - age := wrap64 (by omega) (by omega)
  refine loop_drop s.list.length (fun i e H c' => e 0 = s.av 4 TSession.enc ∧ e 1 = .int .i64 now ∧ e 2 = .int .i64 age ∧ e 8 = .int .i64 i ∧ ∃ t, e 7 = .ref 0 t 4 ((s.list.take i).filter (keepS now age)).length ∧ H = [⟨false, t, 4, ((s.list.take i).filter (keepS now age)).map TSession.enc⟩]) ⟨rfl, rfl, rfl, rfl, _, rfl, rfl⟩ ?_
  intro i e H c' hi ⟨e0, e1, e2, e8, t, e7, hH⟩ N hN
  subst hH
  have hlen : ((s.list.take i).filter (keepS now age)).length ≤ 1048576 := Nat.le_trans (List.length_filter_le _ _) (by simp; omega)
  simp [e0, e1, e2, e7, e8]
  refine ⟨fun h => ?_, fun h => ?_⟩
  · have hst := filter_step (keepS now age) h
    have hl : s.list[i]? = some s.list[i] := List.getElem?_eq_getElem h
    refine ⟨_, hl, ?_⟩
    have hm1 : ((s.list.take i).filter (keepS now age)).length + 1 ≤ mx := by unfold mx; omega
    have hm2 : (((s.list.take i).filter (keepS now age)).length + 1) * 48 ≤ 140737488355328 := by omega
    by_cases q1 : s.list[i].Holder = 0
    · simp [e0, e1, e2, e7, e8, q1, hw]
      refine ⟨_, hl, ?_⟩
      by_cases q2 : now - age ≤ s.list[i].At
      · simp [e0, e1, e2, e7, e8, q1, q2, hw]
        refine ⟨_, hl, ?_⟩
        simp [e0, e1, e2, e7, e8, hm1, hm2]
        refine hN _ _ _ _ h (sub_one _ _) ⟨by simp [upd, e0], by simp [upd, e1], by simp [upd, e2], by simp [upd]; exact step64 (by unfold mx; omega) h, c' + 1, ?_, ?_⟩
        · rw [hst]; simp [keepS, q1, q2, upd]
        · rw [hst]; simp [keepS, q1, q2]
      · simp [e0, e1, e2, e7, e8, q1, q2, hw]
        refine hN _ _ _ _ h (List.Sublist.refl _) ⟨by simp [upd, e0], by simp [upd, e1], by simp [upd, e2], by simp [upd]; exact step64 (by unfold mx; omega) h, t, ?_, ?_⟩
        · rw [hst]; simp [keepS, q1, q2, upd, e7]
        · rw [hst]; simp [keepS, q1, q2]
    · simp [e0, e1, e2, e7, e8, q1]
      refine ⟨_, hl, ?_⟩
      simp [e0, e1, e2, e7, e8, hm1, hm2]
      refine hN _ _ _ _ h (sub_one _ _) ⟨by simp [upd, e0], by simp [upd, e1], by simp [upd, e2], by simp [upd]; exact step64 (by unfold mx; omega) h, c' + 1, ?_, ?_⟩
      · rw [hst]; simp [keepS, q1, upd]
      · rw [hst]; simp [keepS, q1]
  · have h1' : i = s.list.length := by omega
    subst h1'
    exact fin_all ⟨.mk t _, rfl, by rw [flat_wood], by simp [sweepS, h1, h2]⟩
theorem cloneSO {s : SL TSession} (hn : s.list.length ≤ 1048576) (c : Nat) : Con Try.prog 85 [s.av 4 TSession.enc] [] c fun r O _ => ∃ x : SL TSession, r = x.ref 4 ∧ O = x.wood 4 TSession.enc noInn ∧ x.list = s.list :=
  clone_con (b := 48) (z := [.str [], .str [], .int .i64 0, .int .i64 0]) c85 (by omega) (by unfold mx; omega) c

theorem impl_sweepO {s : SL TSession} {now age : Int} (hn : s.list.length ≤ 1048576) (c : Nat) : Con Try.prog 29 [s.av 4 TSession.enc, .int .i64 now, .int .i64 age] [] c fun r O _ => ∃ x : SL TSession, r = x.ref 4 ∧ O = x.wood 4 TSession.enc noInn ∧ x.list = sweepS now age s.list := by
  refine con_of c29 (by simp [F29]) ?_
  unfold F29
  simp
  refine call_fn0 (inRange_fn _ _ _) .bool fun _ _ => ?_
  cases h1 : inR now 0 1000000000000
  · simp
    refine call_new (cloneSO hn _) (Views.refl _ _) fun r O c1 hc ⟨x, hr, hO, hx⟩ _ _ => ?_
    subst hr; subst hO
    refine ⟨_, .refl _, free_ref _ _ _, fun o ho => flat_free TSession.flat _ _ o ho _, ?_⟩
    simp
    exact fin_all ⟨x, rfl, rfl, by simp [sweepS, h1, hx]⟩
  simp
  refine call_fn0 (inRange_fn _ _ _) .bool fun _ _ => ?_
  cases h2 : inR age 0 1000000000000
  · simp
    refine call_new (cloneSO hn _) (Views.refl _ _) fun r O c1 hc ⟨x, hr, hO, hx⟩ _ _ => ?_
    subst hr; subst hO
    refine ⟨_, .refl _, free_ref _ _ _, fun o ho => flat_free TSession.flat _ _ o ho _, ?_⟩
    simp
    exact fin_all ⟨x, rfl, rfl, by simp [sweepS, h1, h2, hx]⟩
  simp
  have g1 := inR_true h1
  have g2 := inR_true h2
  have hw : IntKind.i64.wrap (now - age) = now - age := wrap64 (by omega) (by omega)
  refine loop_drop s.list.length (fun i e H c' => e 1 = .int .i64 now ∧ e 2 = .int .i64 age ∧ e 21 = s.av 4 TSession.enc ∧ e 22 = .int .i64 s.list.length ∧ e 23 = .int .i64 i ∧ ∃ t, e 7 = .ref 0 t 4 ((s.list.take i).filter (keepS now age)).length ∧ H = [⟨false, t, 4, ((s.list.take i).filter (keepS now age)).map TSession.enc⟩]) ⟨rfl, rfl, rfl, rfl, rfl, _, rfl, rfl⟩ ?_
  intro i e H c' hi ⟨e1, e2, e21, e22, e23, t, e7, hH⟩ N hN
  subst hH
  have hlen : ((s.list.take i).filter (keepS now age)).length ≤ 1048576 := Nat.le_trans (List.length_filter_le _ _) (by simp; omega)
  simp [e1, e2, e7, e21, e22, e23]
  refine ⟨fun h => ?_, fun h => ?_⟩
  · have hst := filter_step (keepS now age) h
    have hl : s.list[i]? = some s.list[i] := List.getElem?_eq_getElem h
    refine ⟨_, hl, ?_⟩
    have hm1 : ((s.list.take i).filter (keepS now age)).length + 1 ≤ mx := by unfold mx; omega
    have hm2 : (((s.list.take i).filter (keepS now age)).length + 1) * 48 ≤ 140737488355328 := by omega
    by_cases q1 : s.list[i].Holder = 0
    · by_cases q2 : now - age ≤ s.list[i].At
      · simp [e1, e2, e7, e21, e22, e23, q1, q2, hw, hm1, hm2]
        refine hN _ _ _ _ h (sub_one _ _) ⟨by simp [upd, e1], by simp [upd, e2], by simp [upd, e21], by simp [upd, e22], by simp [upd]; exact step64 (by unfold mx; omega) h, c' + 1 + 1, ?_, ?_⟩
        · rw [hst]; simp [keepS, q1, q2, upd]
        · rw [hst]; simp [keepS, q1, q2]
      · simp [e1, e2, e7, e21, e22, e23, q1, q2, hw]
        refine hN _ _ _ _ h (sub_one _ _) ⟨by simp [upd, e1], by simp [upd, e2], by simp [upd, e21], by simp [upd, e22], by simp [upd]; exact step64 (by unfold mx; omega) h, t, ?_, ?_⟩
        · rw [hst]; simp [keepS, q1, q2, upd, e7]
        · rw [hst]; simp [keepS, q1, q2]
    · simp [e1, e2, e7, e21, e22, e23, q1, hm1, hm2]
      refine hN _ _ _ _ h (sub_one _ _) ⟨by simp [upd, e1], by simp [upd, e2], by simp [upd, e21], by simp [upd, e22], by simp [upd]; exact step64 (by unfold mx; omega) h, c' + 1 + 1, ?_, ?_⟩
      · rw [hst]; simp [keepS, q1, upd]
      · rw [hst]; simp [keepS, q1]
  · have h1' : i = s.list.length := by omega
    subst h1'
    exact fin_all ⟨.mk t _, rfl, by rw [flat_wood], by simp [sweepS, h1, h2]⟩
theorem spec_sweep {s : SL TSession} {now age : Int} (hn : s.list.length ≤ 1048576) : Tr Try.prog 28 [s.av 4 TSession.enc, .int .i64 now, .int .i64 age] fun _ r => ∃ x : SL TSession, r = x.av 4 TSession.enc ∧ x.list = sweepS now age s.list := flat_tr TSession.flat (spec_sweepO hn)
theorem impl_sweep {s : SL TSession} {now age : Int} (hn : s.list.length ≤ 1048576) : Tr Try.prog 29 [s.av 4 TSession.enc, .int .i64 now, .int .i64 age] fun _ r => ∃ x : SL TSession, r = x.av 4 TSession.enc ∧ x.list = sweepS now age s.list := flat_tr TSession.flat (impl_sweepO hn)
theorem len_sweep {now age : Int} (l : List TSession) : (sweepS now age l).length ≤ l.length := by
  unfold sweepS
  split
  · exact List.length_filter_le _ _
  · exact Nat.le_refl _
theorem szL_filter {α : Type} (sz : α → Nat) (p : α → Bool) (l : List α) : szL sz (l.filter p) ≤ szL sz l := by
  induction l with
  | nil => simp
  | cons x l ih =>
    by_cases h : p x = true <;> simp [h, szL] at ih ⊢ <;> omega
theorem size_sweep {now age : Int} (l : List TSession) : (sweepS now age l).length + szL TSession.sz (sweepS now age l) ≤ l.length + szL TSession.sz l := by
  have h := len_sweep (now := now) (age := age) l
  unfold sweepS at h ⊢
  split
  · have := szL_filter TSession.sz (keepS now age) l
    rw [if_pos (by assumption)] at h
    omega
  · exact Nat.le_refl _
end A
end Go.Proofs.Ytgiiipbpadgcgaa
