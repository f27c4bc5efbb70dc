/-
  DropHolds of the reference and of the program are the same plain function, and the law answers true. No condition.
-/
import Derived.Test.YtgiiipbpadgcgaaMSess
import Derived.Test.YtgiiipbpadgcgaaSlc
namespace Go.Proofs.Ytgiiipbpadgcgaa
namespace A
set_option linter.unusedVariables false
set_option linter.unusedSimpArgs false
set_option maxRecDepth 100000

def dropH (who : Int) (x : TSession) : TSession := if x.Holder = who then { x with Holder := 0 } else x

theorem spec_drop {s : SL TSession} {who : Int} (hn : s.list.length ≤ 1048576) : Tr Try.prog 24 [s.av 4 TSession.enc, .int .i64 who] fun _ r => ∃ t, r = (SL.mk t (s.list.map (dropH who))).av 4 TSession.enc := by
  refine tr_of (Q := fun r O _ => ∃ t, r = .ref 0 t 4 s.list.length ∧ O = [⟨false, t, 4, (s.list.map (dropH who)).map TSession.enc⟩]) (fun c => ?_) fun c r O c' _ ⟨t, h1, h2⟩ ht =>
    ⟨(SL.mk t (s.list.map (dropH who))).av 4 TSession.enc, by rw [h1, h2]; exact view_ref (by simp) (by simp) fun x _ => TSession.cells x, ⟨t, rfl⟩, flat_from TSession.flat (by rw [flat_wood, ← h2]; exact ht)⟩
  refine con_of c24 (by simp [F24]) ?_
  unfold F24
  simp
  refine ⟨by omega, by unfold mx; omega, ?_⟩
  refine loop_drop s.list.length (fun i e H c' => e 1 = .int .i64 who ∧ e 5 = .ref 0 (c + 1) 4 s.list.length ∧ e 6 = .int .i64 i ∧ H = [⟨false, c + 1, 4, (mixM (dropH who) s.list i).map TSession.enc⟩]) ⟨rfl, by simp, rfl, by rw [mixM_zero]⟩ ?_
  intro i e H c' hi ⟨e1, e5, e6, hH⟩ N hN
  subst hH
  simp [e1, e5, e6]
  refine ⟨fun h => ?_, fun h => ?_⟩
  · refine ⟨h, s.list[i], mixM_get _ h, ?_⟩
    simp [e1, e5, e6, h]
    by_cases hw : s.list[i].Holder = who
    · simp [e1, e5, e6, hw, h]
      refine ⟨s.list[i], mixM_get _ h, ?_⟩
      simp [putA]
      refine hN _ _ _ _ h (List.Sublist.refl _) ⟨by simp [upd, e1], by simp [upd, e5], by simp [upd]; exact step64 (by unfold mx; omega) h, ?_⟩
      rw [← mixM_set _ h, List.map_set]
      simp [dropH, hw, TSession.enc]
    · simp [e1, e5, e6, hw, h]
      refine hN _ _ _ _ h (List.Sublist.refl _) ⟨by simp [upd, e1], by simp [upd, e5], by simp [upd]; exact step64 (by unfold mx; omega) h, ?_⟩
      rw [mixM_same _ h (by simp [dropH, hw])]
  · have h1 : i = s.list.length := by omega
    subst h1
    exact fin_all ⟨c + 1, rfl, by rw [mixM_all]; simp⟩

theorem impl_dropO {s : SL TSession} {who : Int} (hn : s.list.length ≤ 1048576) (c : Nat) : Con Try.prog 25 [s.av 4 TSession.enc, .int .i64 who] [] c fun r O _ => ∃ x : SL TSession, r = x.ref 4 ∧ O = x.wood 4 TSession.enc noInn ∧ x.list = s.list.map (dropH who) := by
  refine con_of c25 (by simp [F25]) ?_
  unfold F25
  simp
  refine call_new (clone_con (b := 48) (z := [.str [], .str [], .int .i64 0, .int .i64 0]) c85 (by omega) (by unfold mx; omega) _) (Views.refl _ _) fun r O c1 hc ⟨x, hr, hO, hx⟩ _ _ => ?_
  subst hr; subst hO
  refine ⟨_, .refl _, by exact free_ref _ _ _, fun o ho => flat_free TSession.flat _ _ o ho _, ?_⟩
  simp
  refine loop_drop s.list.length (fun i e H c' => e 1 = .int .i64 who ∧ e 5 = x.ref 4 ∧ e 10 = s.av 4 TSession.enc ∧ e 11 = .int .i64 s.list.length ∧ e 12 = .int .i64 i ∧ H = (x.lmap fun l => mixM (dropH who) l i).wood 4 TSession.enc noInn) ⟨rfl, rfl, rfl, rfl, rfl, by simp only [mixM_zero]; exact (SL.wood_lmap _ _ _).symm⟩ ?_
  intro i e H c' hi ⟨e1, e5, e10, e11, e12, hH⟩ N hN
  simp [e1, e5, e10, e11, e12]
  refine ⟨fun h => ?_, fun h => ?_⟩
  · cases x with
    | nil => rw [← hx] at h; simp at h
    | mk t l =>
      simp only [SL.list_mk] at hx
      subst hx
      simp only [SL.lmap, flat_wood, SL.ref] at e5 hN hH
      subst hH
      refine ⟨s.list[i], List.getElem?_eq_getElem h, ?_⟩
      simp [e1, e5, e10, e11, e12, h]
      by_cases hw : s.list[i].Holder = who
      · simp [e1, e5, e10, e11, e12, hw, h]
        refine ⟨s.list[i], mixM_get _ h, ?_⟩
        simp [putA]
        refine hN _ _ _ _ h (sub_one _ _) ⟨by simp [upd, e1], by simp [upd, e5], by simp [upd, e10], by simp [upd, e11], by simp [upd]; exact step64 (by unfold mx; omega) h, ?_⟩
        rw [← mixM_set _ h, List.map_set]
        simp [dropH, hw, TSession.enc]
      · simp [e1, e5, e10, e11, e12, hw, h]
        refine hN _ _ _ _ h (sub_one _ _) ⟨by simp [upd, e1], by simp [upd, e5], by simp [upd, e10], by simp [upd, e11], by simp [upd]; exact step64 (by unfold mx; omega) h, ?_⟩
        rw [mixM_same _ h (by simp [dropH, hw])]
  · have h1 : i = s.list.length := by omega
    subst h1
    subst hH
    refine fin_all ⟨x.lmap fun l => mixM (dropH who) l s.list.length, ?_, rfl, ?_⟩
    · cases x <;> simp [SL.lmap, SL.ref]
    · rw [SL.lmap_list (by simp), hx, mixM_all]
theorem impl_drop {s : SL TSession} {who : Int} (hn : s.list.length ≤ 1048576) : Tr Try.prog 25 [s.av 4 TSession.enc, .int .i64 who] fun _ r => ∃ x : SL TSession, r = x.av 4 TSession.enc ∧ x.list = s.list.map (dropH who) :=
  flat_tr TSession.flat (impl_dropO hn)
end A
end Go.Proofs.Ytgiiipbpadgcgaa
