/-
  Marks on sessions, and what reads them. No condition.
-/
import Derived.Test.YtgiiipbpadgcgaaTSess
import Derived.Test.YtgiiipbpadgcgaaMText
namespace Go.Proofs.Ytgiiipbpadgcgaa
namespace A
set_option linter.unusedVariables false
set_option linter.unusedSimpArgs false
set_option maxRecDepth 100000

def mkSession (k : Int) (x : TSession) : TSession := ⟨mtext k, mtext (k + 1), k + 2, k + 3⟩
def cSession (x : TSession) : Nat := 4
theorem TSession.flat : Flat TSession.enc := fun x a ha => by
  simp [TSession.enc] at ha
  rcases ha with rfl | rfl | rfl | rfl <;> exact ⟨rfl, fun T => by constructor⟩

theorem markSession_nil (k : Int) : Fnc Try.prog 26 [.nsl, .int .i64 k] (.int .i64 k) := by
  refine fn_of c26 (by simp [F26]) fun c => ?_
  unfold F26
  simp
  refine loop_drop 0 (fun i e H c' => e 0 = .nsl ∧ e 1 = .int .i64 k ∧ e 5 = .int .i64 0 ∧ H = []) ⟨rfl, rfl, rfl, rfl⟩ ?_
  intro i e H c hi ⟨e0, e1, e5, hH⟩ N hN
  subst hH
  simp [e0, e1, e5]
  exact fin_plain ⟨rfl, rfl⟩
theorem heldSession_nil (k : Int) : Fnc Try.prog 27 [.nsl, .int .i64 k] (.int .i64 k) := by
  refine fn_of c27 (by simp [F27]) fun c => ?_
  unfold F27
  simp
  refine loop_drop 0 (fun i e H c' => e 0 = .nsl ∧ e 1 = .int .i64 k ∧ e 5 = .int .i64 0 ∧ H = []) ⟨rfl, rfl, rfl, rfl⟩ ?_
  intro i e H c hi ⟨e0, e1, e5, hH⟩ N hN
  subst hH
  simp [e0, e1, e5]
  exact fin_plain ⟨rfl, rfl⟩

theorem markSession_con1 {l : List TSession} (hn : l.length ≤ 2097152) {k : Int} (hk : 0 ≤ k ∧ k ≤ 1099511627776) (t c : Nat) :
    Con Try.prog 26 [.ref 0 t 4 l.length, .int .i64 k] [⟨false, t, 4, l.map TSession.enc⟩] c fun r H' _ => r = .int .i64 (k + szL cSession l) ∧ H' = [⟨false, t, 4, (mks mkSession cSession k l).map TSession.enc⟩] := by
  refine con_of c26 (by simp [F26]) ?_
  unfold F26
  simp
  refine loop_drop l.length (fun i e H c' => e 0 = .ref 0 t 4 l.length ∧ e 1 = .int .i64 (k + szL cSession (l.take i)) ∧ e 5 = .int .i64 i ∧ H = [⟨false, t, 4, (mixed mkSession cSession k l i).map TSession.enc⟩]) ⟨rfl, by simp [szL], rfl, by rw [mixed_zero]⟩ ?_
  intro i e H c hi ⟨e0, e1, e5, hH⟩ N hN
  subst hH
  have hs := mixed_set mkSession cSession k l (i := i)
  have hst := fun h : i < l.length => szL_step cSession l h
  have hj : szL cSession (l.take i) ≤ 4 * i := by
    show szL (fun _ => 4) (l.take i) ≤ _
    rw [szL_const]; simp; omega
  generalize hjj : k + (szL cSession (l.take i) : Int) = j at e1 hs
  have w1 : IntKind.i64.wrap (j + 1) = j + 1 := wrap64 (by omega) (by omega)
  have w2 : IntKind.i64.wrap (j + 1 + 1) = j + 1 + 1 := wrap64 (by omega) (by omega)
  have w3 : IntKind.i64.wrap (j + 1 + 1 + 1) = j + 1 + 1 + 1 := wrap64 (by omega) (by omega)
  have w4 : IntKind.i64.wrap (j + 1 + 1 + 1 + 1) = j + 1 + 1 + 1 + 1 := wrap64 (by omega) (by omega)
  simp [e0, e1, e5]
  refine ⟨fun h => ?_, fun h => ?_⟩
  · have hs := hs h
    have hst := hst h
    have hg := mixed_get mkSession cSession k l h
    generalize l[i] = x at hs hst hg
    refine call_fn0 (mtext_fn (by omega)) .str fun _ _ => ?_
    simp [e0, e1, e5, h]
    refine ⟨_, hg, ?_⟩
    simp [e0, e1, e5, h, mixed_len, w1, w2, w3, w4, putA, TSession.enc]
    refine call_fn0 (mtext_fn (by omega)) .str fun _ _ => ?_
    simp [e0, e1, e5, h, mixed_len, w1, w2, w3, w4, putA, TSession.enc]
    refine hN _ _ _ _ h (List.Sublist.refl _) ⟨by simp [upd, e0], ?_, by simp [upd]; exact step64 (by unfold mx; omega) h, ?_⟩
    · simp [upd, w1, w2, w3, w4, hst, cSession]; omega
    · rw [← hs, List.map_set]
      simp [mkSession, TSession.enc, w1, w2, w3, w4, Int.add_assoc]
  · have h1 : i = l.length := by omega
    subst h1
    refine fin_all ⟨?_, ?_⟩
    · rw [← hjj]; simp
    · rw [mixed_all]

theorem heldSession_fn1 {l : List TSession} (hn : l.length ≤ 2097152) {k : Int} (hk : 0 ≤ k ∧ k ≤ 1099511627776) (t : Nat) :
    Fnc Try.prog 27 [(SL.mk t (mks mkSession cSession k l)).av 4 TSession.enc, .int .i64 k] (.int .i64 (k + szL cSession l)) := by
  refine fn_of c27 (by simp [F27]) fun c => ?_
  unfold F27
  simp
  have hlen := mks_len mkSession cSession k l
  refine loop_drop l.length (fun i e H c' => e 0 = (SL.mk t (mks mkSession cSession k l)).av 4 TSession.enc ∧ e 1 = .int .i64 (k + szL cSession (l.take i)) ∧ e 5 = .int .i64 i ∧ H = []) ⟨rfl, by simp [szL], rfl, rfl⟩ ?_
  intro i e H c hi ⟨e0, e1, e5, hH⟩ N hN
  subst hH
  have hg := fun h : i < l.length => mks_get mkSession cSession k l h
  have hst := fun h : i < l.length => szL_step cSession l h
  have hj : szL cSession (l.take i) ≤ 4 * i := by
    show szL (fun _ => 4) (l.take i) ≤ _
    rw [szL_const]; simp; omega
  generalize hjj : k + (szL cSession (l.take i) : Int) = j at e1 hg
  have w1 : IntKind.i64.wrap (j + 1) = j + 1 := wrap64 (by omega) (by omega)
  have w2 : IntKind.i64.wrap (j + 1 + 1) = j + 1 + 1 := wrap64 (by omega) (by omega)
  have w3 : IntKind.i64.wrap (j + 1 + 1 + 1) = j + 1 + 1 + 1 := wrap64 (by omega) (by omega)
  have w4 : IntKind.i64.wrap (j + 1 + 1 + 1 + 1) = j + 1 + 1 + 1 + 1 := wrap64 (by omega) (by omega)
  simp [e0, e1, e5, hlen]
  refine ⟨fun h => ?_, fun h => ?_⟩
  · have hg := hg h
    have hst := hst h
    generalize l[i] = x at hg hst
    have f0 : (mkSession j x).Id = mtext j := rfl
    have f1 : (mkSession j x).Data = mtext (j + 1) := rfl
    have f2 : (mkSession j x).Holder = j + 1 + 1 := by simp [mkSession]; omega
    have f3 : (mkSession j x).At = j + 1 + 1 + 1 := by simp [mkSession]; omega
    refine ⟨_, hg, ?_⟩
    simp [e0, e1, e5, h, w1, w2, w3, w4, f0, f1, f2, f3]
    refine callF_fn0 (mtext_fn (by omega)) .str fun _ _ => ?_
    simp [e0, e1, e5, h, w1, w2, w3, w4, f0, f1, f2, f3]
    refine ⟨_, hg, ?_⟩
    simp [e0, e1, e5, h, w1, w2, w3, w4, f0, f1, f2, f3]
    refine callF_fn0 (mtext_fn (by omega)) .str fun _ _ => ?_
    simp [e0, e1, e5, h, w1, w2, w3, w4, f0, f1, f2, f3]
    refine ⟨_, hg, ?_⟩
    simp [e0, e1, e5, h, w1, w2, w3, w4, f0, f1, f2, f3]
    refine ⟨_, hg, ?_⟩
    simp [e0, e1, e5, h, w1, w2, w3, w4, f0, f1, f2, f3]
    refine hN _ _ _ _ h (List.Sublist.refl _) ⟨by simp [upd, e0], ?_, by simp [upd]; exact step64 (by unfold mx; omega) h, rfl⟩
    simp [upd, w1, w2, w3, w4, hst, cSession]; omega
  · have h1 : i = l.length := by omega
    subst h1
    refine fin_plain ⟨?_, rfl⟩
    rw [← hjj]; simp

theorem markSession_con {s : SL TSession} (hn : s.list.length ≤ 2097152) {k : Int} (hk : 0 ≤ k ∧ k ≤ 1099511627776) (c : Nat) :
    Con Try.prog 26 [s.ref 4, .int .i64 k] (s.wood 4 TSession.enc noInn) c fun r H' _ => r = .int .i64 (k + szL cSession s.list) ∧ H' = (s.marks mkSession cSession k).wood 4 TSession.enc noInn := by
  cases s with
  | nil =>
    have := markSession_nil k c
    simpa [SL.ref, SL.wood, SL.marks, szL] using this
  | mk t l =>
    have := markSession_con1 (l := l) hn hk t c
    simpa [SL.ref, SL.wood, SL.marks, wood_flat] using this
theorem heldSession_fn {s : SL TSession} (hn : s.list.length ≤ 2097152) {k : Int} (hk : 0 ≤ k ∧ k ≤ 1099511627776) :
    Fnc Try.prog 27 [(s.marks mkSession cSession k).av 4 TSession.enc, .int .i64 k] (.int .i64 (k + szL cSession s.list)) := by
  cases s with
  | nil =>
    have := heldSession_nil k
    simpa [SL.av, SL.marks, szL] using this
  | mk t l => exact heldSession_fn1 (l := l) hn hk t
end A
end Go.Proofs.Ytgiiipbpadgcgaa
