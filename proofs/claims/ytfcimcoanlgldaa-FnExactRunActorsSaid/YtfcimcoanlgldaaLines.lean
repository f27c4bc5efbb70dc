/-
  AreLines of the reference and of the program are the same plain function of the list of lines. No condition.
-/
import Derived.Test.YtfcimcoanlgldaaTLine
import Derived.Test.YtfcimcoanlgldaaBase
namespace Go.Proofs.Ytfcimcoanlgldaa
namespace A
set_option linter.unusedVariables false
set_option linter.unusedSimpArgs false
set_option maxRecDepth 100000

def lineOk (a : TLine) : Bool :=
  inR a.Seq 0 1000000000000 && inR a.Owner 0 8 && inR a.Version 0 1000000000000 && decide (a.Words.list.length ≤ 4100) && (decide (a.Seq.tmod 2 = 1) == decide (0 < a.Owner))

def areLines (l : List TLine) : Bool := l.all lineOk && decide (l.length ≤ 8)

theorem spec_areLines {s : SL TLine} (hn : s.list.length ≤ mx) : Fnc Try.prog 34 [s.av 4 TLine.enc] (.bool (areLines s.list)) := by
  refine fn_of c34 (by simp [F34]) fun c => ?_
  unfold F34
  simp
  refine loop_drop s.list.length (fun i e H c' => e 0 = s.av 4 TLine.enc ∧ e 3 = .int .i64 i ∧ (s.list.take i).all lineOk = true ∧ H = []) ⟨rfl, rfl, by simp, rfl⟩ ?_
  intro i e H c hi ⟨e0, e3, hall, hH⟩ N hN
  subst hH
  simp [e0, e3]
  refine ⟨fun h => ⟨s.list[i], List.getElem?_eq_getElem h, ?_⟩, fun h => ?_⟩
  · generalize hx : s.list[i] = x
    have bad : lineOk x = false → areLines s.list = false := fun hb => by
      unfold areLines
      have : s.list.all lineOk = false := by
        rw [List.all_eq_false]; exact ⟨x, hx ▸ List.getElem_mem h, by simp [hb]⟩
      simp [this]
    simp [e0, e3]
    refine call_fn0 (l1In_fn _ _ _) .bool fun _ _ => ?_
    cases h1 : inR x.Seq 0 1000000000000
    · simp [e0, e3]; exact fin_plain ⟨by rw [bad (by simp [lineOk, h1])], rfl⟩
    simp [e0, e3]
    refine call_fn0 (l1In_fn _ _ _) .bool fun _ _ => ?_
    cases h2 : inR x.Owner 0 8
    · simp [e0, e3]; exact fin_plain ⟨by rw [bad (by simp [lineOk, h2])], rfl⟩
    simp [e0, e3]
    refine call_fn0 (l1In_fn _ _ _) .bool fun _ _ => ?_
    cases h3 : inR x.Version 0 1000000000000
    · simp [e0, e3]; exact fin_plain ⟨by rw [bad (by simp [lineOk, h3])], rfl⟩
    simp [e0, e3]
    by_cases h4 : (4100 : Int) < x.Words.list.length
    · simp [e0, e3, h4]; exact fin_plain ⟨by rw [bad (by simp [lineOk]; intros; omega)], rfl⟩
    simp [e0, e3, h4]
    have h4' : x.Words.list.length ≤ 4100 := by omega
    by_cases h5 : x.Seq.tmod 2 = 1 <;> by_cases h6 : 0 < x.Owner <;> simp [e0, e3, h5, h6]
    all_goals first
      | exact fin_plain ⟨by rw [bad (by simp [lineOk, h5, h6])], rfl⟩
      | exact hN _ _ _ _ h (List.nil_sublist _) ⟨by simp [upd, e0], by simp [upd]; exact step64 hn h, all_step hall h (by rw [hx]; simp [lineOk, h1, h2, h3, h4', h5, h6]), rfl⟩
  · have : i = s.list.length := by omega
    subst this
    rw [List.take_length] at hall
    refine fin_plain ⟨?_, rfl⟩
    simp [areLines, hall]
    omega

theorem impl_areLines {s : SL TLine} (hn : s.list.length ≤ mx) : Fnc Try.prog 43 [s.av 4 TLine.enc] (.bool (areLines s.list)) := by
  refine fn_of c43 (by simp [F43]) fun c => ?_
  unfold F43
  simp
  refine loop_drop s.list.length (fun i e H c' => e 0 = s.av 4 TLine.enc ∧ e 5 = s.av 4 TLine.enc ∧ e 6 = .int .i64 s.list.length ∧ e 7 = .int .i64 i ∧ (s.list.take i).all lineOk = true ∧ H = []) ⟨rfl, rfl, rfl, rfl, by simp, rfl⟩ ?_
  intro i e H c hi ⟨e0, e5, e6, e7, hall, hH⟩ N hN
  subst hH
  simp [e0, e5, e6, e7]
  refine ⟨fun h => ⟨s.list[i], List.getElem?_eq_getElem h, ?_⟩, fun h => ?_⟩
  · generalize hx : s.list[i] = x
    have bad : lineOk x = false → areLines s.list = false := fun hb => by
      unfold areLines
      have : s.list.all lineOk = false := by
        rw [List.all_eq_false]; exact ⟨x, hx ▸ List.getElem_mem h, by simp [hb]⟩
      simp [this]
    simp [e0, e5, e6, e7]
    refine call_fn0 (inRange_fn _ _ _) .bool fun _ _ => ?_
    cases h1 : inR x.Seq 0 1000000000000
    · simp [e0, e5, e6, e7]; exact fin_plain ⟨by rw [bad (by simp [lineOk, h1])], rfl⟩
    simp [e0, e5, e6, e7]
    refine call_fn0 (inRange_fn _ _ _) .bool fun _ _ => ?_
    cases h3 : inR x.Version 0 1000000000000
    · simp [e0, e5, e6, e7]; exact fin_plain ⟨by rw [bad (by simp [lineOk, h3])], rfl⟩
    simp [e0, e5, e6, e7]
    refine call_fn0 (inRange_fn _ _ _) .bool fun _ _ => ?_
    cases h2 : inR x.Owner 0 8
    · simp [e0, e5, e6, e7]; exact fin_plain ⟨by rw [bad (by simp [lineOk, h2])], rfl⟩
    simp [e0, e5, e6, e7]
    by_cases h4 : (4100 : Int) < x.Words.list.length
    · simp [e0, e5, e6, e7, h4]; exact fin_plain ⟨by rw [bad (by simp [lineOk]; intros; omega)], rfl⟩
    simp [e0, e5, e6, e7, h4]
    have h4' : x.Words.list.length ≤ 4100 := by omega
    by_cases h5 : x.Seq.tmod 2 = 1 <;> by_cases h6 : 0 < x.Owner <;> simp [e0, e5, e6, e7, h5, h6]
    all_goals first
      | exact fin_plain ⟨by rw [bad (by simp [lineOk, h5, h6])], rfl⟩
      | exact hN _ _ _ _ h (List.nil_sublist _) ⟨by simp [upd, e0], by simp [upd, e5], by simp [upd, e6], by simp [upd]; exact step64 hn h, all_step hall h (by rw [hx]; simp [lineOk, h1, h2, h3, h4', h5, h6]), rfl⟩
  · have : i = s.list.length := by omega
    subst this
    rw [List.take_length] at hall
    refine fin_plain ⟨?_, rfl⟩
    simp [areLines, hall]
    omega

theorem areLines_con {s t : SL TLine} (h : s.list.map TLine.con = t.list.map TLine.con) : areLines s.list = areLines t.list := by
  have e : ∀ l : List TLine, areLines l = areLines (l.map TLine.con) := fun l => by
    unfold areLines
    rw [List.all_map, List.length_map]
    rfl
  rw [e, e t.list, h]

end A
end Go.Proofs.Ytfcimcoanlgldaa
