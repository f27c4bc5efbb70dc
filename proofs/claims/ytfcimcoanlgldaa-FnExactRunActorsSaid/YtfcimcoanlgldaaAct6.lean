/-
  Actors copied, by the reference. No condition.
-/
import Derived.Test.YtfcimcoanlgldaaAct5
import Derived.Test.YtfcimcoanlgldaaAreA
namespace Go.Proofs.Ytfcimcoanlgldaa
namespace A
set_option linter.unusedVariables false
set_option linter.unusedSimpArgs false
set_option maxRecDepth 100000

def rowsY (ks : List (Nat × TActor)) : List (List AV) := ks.map fun p => encY p.1 p.2
theorem renY (t : Nat) (ks : List (Nat × TActor)) : RenO [] ⟨false, t, 7, rowsY ks⟩ ⟨false, t, 7, (ks.map (·.2)).map TActor.encO⟩ where
  mp := rfl
  tag := rfl
  w := rfl
  len := by simp [rowsY]
  maps h := by cases h
  row r x x' h1 h2 := by
    simp only [rowsY, List.getElem?_map, Option.map_eq_some_iff] at h1 h2
    obtain ⟨p, hp, rfl⟩ := h1
    obtain ⟨y, ⟨q, hq, rfl⟩, rfl⟩ := h2
    rw [hp] at hq; cases hq
    refine ⟨rfl, fun j a a' h3 h4 => ?_⟩
    match j, h3, h4 with
    | 0, h3, h4 => simp [encY] at h3; simp [TActor.encO] at h4; exact .inl (by rw [← h3, ← h4])
    | 1, h3, h4 => simp [encY] at h3; simp [TActor.encO] at h4; exact .inl (by rw [← h3, ← h4])
    | 2, h3, h4 => simp [encY] at h3; simp [TActor.encO] at h4; exact .inl (by rw [← h3, ← h4])
    | 3, h3, h4 =>
      simp [encY] at h3; simp [TActor.encO] at h4
      subst h3; subst h4
      exact .inr ⟨cell_ref _ _, view_at' _ _ _ _⟩
    | 4, h3, h4 => simp [encY] at h3; simp [TActor.encO] at h4; exact .inl (by rw [← h3, ← h4])
    | 5, h3, h4 => simp [encY] at h3; simp [TActor.encO] at h4; exact .inl (by rw [← h3, ← h4])
    | 6, h3, h4 => simp [encY] at h3; simp [TActor.encO] at h4; exact .inl (by rw [← h3, ← h4])
    | j + 7, h3, h4 => simp [encY] at h3
theorem wood_innA (t : Nat) (l : List TActor) : (SL.mk t l).wood 7 TActor.encO TActor.inn = ⟨false, t, 7, l.map TActor.encO⟩ :: innA l := rfl
theorem innA_one (x : TActor) : innA [x] = x.inn := by simp [innA]
theorem con_pa {a b : TActor} (h : a.con = b.con) : a.pa = b.pa := by
  have h0 : a.Writer = b.Writer := (congrArg TActor.Writer h : a.con.Writer = b.con.Writer)
  have h1 : a.Line = b.Line := (congrArg TActor.Line h : a.con.Line = b.con.Line)
  have h2 : a.Version = b.Version := (congrArg TActor.Version h : a.con.Version = b.con.Version)
  have h3 : a.State = b.State := (congrArg TActor.State h : a.con.State = b.con.State)
  have h4 : a.At = b.At := (congrArg TActor.At h : a.con.At = b.con.At)
  have h5 : a.Seq = b.Seq := (congrArg TActor.Seq h : a.con.Seq = b.con.Seq)
  have h6 : a.Words.list = b.Words.list := (congrArg (fun x : TActor => x.Words.list) h : a.con.Words.list = b.con.Words.list)
  simp [TActor.pa, h0, h1, h2, h3, h4, h5, h6]

theorem spec_actorsO {s : SL TActor} (hn : s.list.length ≤ 1048576) (hz : ∀ x, x ∈ s.list → x.Words.list.length ≤ 1048576) (c : Nat) :
    Con Try.prog 33 [s.av 7 TActor.enc] [] c fun r O _ => ∃ b : SL TActor, r = b.ref 7 ∧ O = b.wood 7 TActor.encO TActor.inn ∧ b.list.map TActor.pa = s.list.map TActor.pa ∧ ∃ t, b = .mk t b.list := by
  refine con_of c33 (by simp [F33]) ?_
  unfold F33
  simp
  refine loop_drop s.list.length (fun i e H c' => e 0 = s.av 7 TActor.enc ∧ e 4 = .int .i64 i ∧ ∃ (t : Nat) (ks : List (Nat × TActor)), e 3 = .ref 0 t 7 i ∧ ks.length = i ∧ (ks.map (·.2)).map TActor.pa = (s.list.take i).map TActor.pa ∧ H = ⟨false, t, 7, rowsY ks⟩ :: innA (ks.map (·.2))) ⟨rfl, rfl, _, [], rfl, rfl, rfl, rfl⟩ ?_
  intro i e H c' hi ⟨e0, e4, t, ks, e3, hy, hcon, hH⟩ N hN
  subst hH
  have hrl : (rowsY ks).length = i := by simp [rowsY, hy]
  generalize hys : ks.map (·.2) = ys at hcon
  simp [e0, e3, e4]
  refine ⟨fun h => ⟨s.list[i], List.getElem?_eq_getElem h, ?_⟩, fun h => ?_⟩
  · have hw := hz _ (List.getElem_mem h)
    have hget : s.list[i]? = some s.list[i] := List.getElem?_eq_getElem h
    have htk : (s.list.take (i + 1)).map TActor.pa = (s.list.take i).map TActor.pa ++ [s.list[i].pa] := by rw [List.take_succ_eq_append_getElem h, List.map_append]; rfl
    generalize s.list[i] = x at hget hw htk
    simp [e0, e3, e4, h]
    refine ⟨_, hget, ?_⟩
    have m1 : x.Words.list.length * 8 ≤ 140737488355328 := by omega
    have m2 : x.Words.list.length ≤ mx := by unfold mx; omega
    have m3 : (i + 1) * 72 ≤ 140737488355328 := by omega
    have m4 : i + 1 ≤ mx := by unfold mx; omega
    simp [e0, e3, e4, h, m1, m2, m3, m4, hrl, putA, TActor.enc]
    refine hN _ _ (⟨false, c' + 1 + 1 + 1 + 1, 7, rowsY (ks ++ [((innA ys).length + 1 + 1, TActor.mk x.Writer x.Line x.Version (.mk (c' + 1 + 1) x.Words.list) x.State x.At x.Seq)])⟩ :: innA ((ks ++ [((innA ys).length + 1 + 1, TActor.mk x.Writer x.Line x.Version (.mk (c' + 1 + 1) x.Words.list) x.State x.At x.Seq)]).map (·.2))) _ h ?_
      ⟨by simp [upd, e0], by simp [upd]; exact step64 (by unfold mx; omega) h, c' + 1 + 1 + 1 + 1, _, by simp [upd], by simp [hy], ?_, rfl⟩
    · rw [List.map_append, innA_app, hys]
      have e1 : rowsY (ks ++ [((innA ys).length + 1 + 1, TActor.mk x.Writer x.Line x.Version (.mk (c' + 1 + 1) x.Words.list) x.State x.At x.Seq)]) = rowsY ks ++ [[.bool x.Writer, .int .i64 x.Line, .int .i64 x.Version, .ref ((innA ys).length + 1 + 1) (c' + 1 + 1) 1 x.Words.list.length, .int .i64 x.State, .int .i64 x.At, .int .i64 x.Seq]] := by
        simp [rowsY, encY, SL.at_]
      rw [e1]
      refine List.Sublist.cons_cons _ (List.Sublist.append (List.Sublist.refl _) ?_)
      simp only [List.map_cons, List.map_nil, innA_one, TActor.inn, flat_wood]
      exact ((List.nil_sublist _).cons_cons _).cons _
    · rw [List.map_append, List.map_append, hys, hcon, htk]
      simp [TActor.pa]
  · have h1 : i = s.list.length := by omega
    subst h1
    refine fin_ren (List.Sublist.refl _) (.cons (renY t ks) (.refl _ _)) (.refl _) ⟨.mk t ys, ?_, ?_, ?_, t, rfl⟩
    · subst hys; simp [SL.ref, hy]
    · rw [wood_innA, hys]
    · simpa using hcon
end A
end Go.Proofs.Ytfcimcoanlgldaa
