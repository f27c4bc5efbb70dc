import Derived.Test.YtfcimcoanlgldaaGreatB08

/-
  AreLines of the reference and of the program are the same plain function of the list of lines. No condition.
-/


namespace Go.Proofs.YtfcimcoanlgldaaGreat
namespace A
set_option linter.unusedVariables false
set_option linter.unusedSimpArgs false
set_option maxRecDepth 100000

def lineOk (a : TLine) : Bool :=
  inR a.Seq 0 1000000000000 && inR a.Owner 0 8 && inR a.Version 0 1000000000000 && decide (a.Words.list.length ≤ 4100) && (decide (a.Seq.tmod 2 = 1) == decide (0 < a.Owner))

def areLines (l : List TLine) : Bool := l.all lineOk && decide (l.length ≤ 8)

theorem spec_areLines {s : SL TLine} (hn : s.list.length ≤ mx) : Fnc Tryz.prog 64 [s.av 4 TLine.enc] (.bool (areLines s.list)) := by
  refine fn_of c64 (by simp [F64]) fun c => ?_
  unfold F64
  simp
  refine loop_drop s.list.length (fun i e H c' => e 0 = s.av 4 TLine.enc ∧ e 3 = .int .i64 i ∧ (s.list.take i).all lineOk = true ∧ H = []) ⟨rfl, rfl, by simp, rfl⟩ ?_
  intro i e H c hi ⟨e0, e3, hall, hH⟩ N hN
  subst hH
  simp [e0, e3]
  refine ⟨fun h => ⟨s.list[i], List.getElem?_eq_getElem h, ?_⟩, fun h => ?_⟩
  · generalize hx : s.list[i] = x
    have bad : lineOk x = false → areLines s.list = false := fun hb => by
      unfold areLines
      have : s.list.all lineOk = false := by
        rw [List.all_eq_false]; exact ⟨x, hx ▸ List.getElem_mem h, by simp [hb]⟩
      simp [this]
    simp [e0, e3]
    refine call_fn0 (l1In_fn _ _ _) .bool fun _ _ => ?_
    cases h1 : inR x.Seq 0 1000000000000
    · simp [e0, e3]; exact fin_plain ⟨by rw [bad (by simp [lineOk, h1])], rfl⟩
    simp [e0, e3]
    refine call_fn0 (l1In_fn _ _ _) .bool fun _ _ => ?_
    cases h2 : inR x.Owner 0 8
    · simp [e0, e3]; exact fin_plain ⟨by rw [bad (by simp [lineOk, h2])], rfl⟩
    simp [e0, e3]
    refine call_fn0 (l1In_fn _ _ _) .bool fun _ _ => ?_
    cases h3 : inR x.Version 0 1000000000000
    · simp [e0, e3]; exact fin_plain ⟨by rw [bad (by simp [lineOk, h3])], rfl⟩
    simp [e0, e3]
    by_cases h4 : (4100 : Int) < x.Words.list.length
    · simp [e0, e3, h4]; exact fin_plain ⟨by rw [bad (by simp [lineOk]; intros; omega)], rfl⟩
    simp [e0, e3, h4]
    have h4' : x.Words.list.length ≤ 4100 := by omega
    by_cases h5 : x.Seq.tmod 2 = 1 <;> by_cases h6 : 0 < x.Owner <;> simp [e0, e3, h5, h6]
    all_goals first
      | exact fin_plain ⟨by rw [bad (by simp [lineOk, h5, h6])], rfl⟩
      | exact hN _ _ _ _ h (List.nil_sublist _) ⟨by simp [upd, e0], by simp [upd]; exact step64 hn h, all_step hall h (by rw [hx]; simp [lineOk, h1, h2, h3, h4', h5, h6]), rfl⟩
  · have : i = s.list.length := by omega
    subst this
    rw [List.take_length] at hall
    refine fin_plain ⟨?_, rfl⟩
    simp [areLines, hall]
    omega

theorem impl_areLines {s : SL TLine} (hn : s.list.length ≤ mx) : Fnc Tryz.prog 77 [s.av 4 TLine.enc] (.bool (areLines s.list)) := by
  refine fn_of c77 (by simp [F77]) fun c => ?_
  unfold F77
  simp
  refine loop_drop s.list.length (fun i e H c' => e 0 = s.av 4 TLine.enc ∧ e 5 = s.av 4 TLine.enc ∧ e 6 = .int .i64 s.list.length ∧ e 7 = .int .i64 i ∧ (s.list.take i).all lineOk = true ∧ H = []) ⟨rfl, rfl, rfl, rfl, by simp, rfl⟩ ?_
  intro i e H c hi ⟨e0, e5, e6, e7, hall, hH⟩ N hN
  subst hH
  simp [e0, e5, e6, e7]
  refine ⟨fun h => ⟨s.list[i], List.getElem?_eq_getElem h, ?_⟩, fun h => ?_⟩
  · generalize hx : s.list[i] = x
    have bad : lineOk x = false → areLines s.list = false := fun hb => by
      unfold areLines
      have : s.list.all lineOk = false := by
        rw [List.all_eq_false]; exact ⟨x, hx ▸ List.getElem_mem h, by simp [hb]⟩
      simp [this]
    simp [e0, e5, e6, e7]
    refine call_fn0 (inRange_fn _ _ _) .bool fun _ _ => ?_
    cases h1 : inR x.Seq 0 1000000000000
    · simp [e0, e5, e6, e7]; exact fin_plain ⟨by rw [bad (by simp [lineOk, h1])], rfl⟩
    simp [e0, e5, e6, e7]
    refine call_fn0 (inRange_fn _ _ _) .bool fun _ _ => ?_
    cases h3 : inR x.Version 0 1000000000000
    · simp [e0, e5, e6, e7]; exact fin_plain ⟨by rw [bad (by simp [lineOk, h3])], rfl⟩
    simp [e0, e5, e6, e7]
    refine call_fn0 (inRange_fn _ _ _) .bool fun _ _ => ?_
    cases h2 : inR x.Owner 0 8
    · simp [e0, e5, e6, e7]; exact fin_plain ⟨by rw [bad (by simp [lineOk, h2])], rfl⟩
    simp [e0, e5, e6, e7]
    by_cases h4 : (4100 : Int) < x.Words.list.length
    · simp [e0, e5, e6, e7, h4]; exact fin_plain ⟨by rw [bad (by simp [lineOk]; intros; omega)], rfl⟩
    simp [e0, e5, e6, e7, h4]
    have h4' : x.Words.list.length ≤ 4100 := by omega
    by_cases h5 : x.Seq.tmod 2 = 1 <;> by_cases h6 : 0 < x.Owner <;> simp [e0, e5, e6, e7, h5, h6]
    all_goals first
      | exact fin_plain ⟨by rw [bad (by simp [lineOk, h5, h6])], rfl⟩
      | exact hN _ _ _ _ h (List.nil_sublist _) ⟨by simp [upd, e0], by simp [upd, e5], by simp [upd, e6], by simp [upd]; exact step64 hn h, all_step hall h (by rw [hx]; simp [lineOk, h1, h2, h3, h4', h5, h6]), rfl⟩
  · have : i = s.list.length := by omega
    subst this
    rw [List.take_length] at hall
    refine fin_plain ⟨?_, rfl⟩
    simp [areLines, hall]
    omega

theorem areLines_con {s t : SL TLine} (h : s.list.map TLine.con = t.list.map TLine.con) : areLines s.list = areLines t.list := by
  have e : ∀ l : List TLine, areLines l = areLines (l.map TLine.con) := fun l => by
    unfold areLines
    rw [List.all_map, List.length_map]
    rfl
  rw [e, e t.list, h]

end A
end Go.Proofs.YtfcimcoanlgldaaGreat

/-
  Lines copied, and recovered in place, by the reference and by the program. No condition.
-/


namespace Go.Proofs.YtfcimcoanlgldaaGreat
namespace A
set_option linter.unusedVariables false
set_option linter.unusedSimpArgs false
set_option maxRecDepth 100000

def inns (l : List TLine) : List AObj := l.flatMap TLine.inn
theorem wood_inns (t : Nat) (l : List TLine) : (SL.mk t l).wood 4 TLine.encO TLine.inn = ⟨false, t, 4, l.map TLine.encO⟩ :: inns l := rfl
theorem inns_app (l m : List TLine) : inns (l ++ m) = inns l ++ inns m := List.flatMap_append ..
theorem inns_one (x : TLine) : inns [x] = x.inn := by simp [inns]
theorem inns_cons (x : TLine) (l : List TLine) : inns (x :: l) = x.inn ++ inns l := List.flatMap_cons ..

theorem av_words (s : SL Int) : Av [] (s.av 1 encI) := by
  cases s with
  | nil => exact .nsl
  | mk t l =>
    exact .slc (by simp) fun r j x a hx ha => by
      obtain ⟨n, _, rfl⟩ := List.mem_map.1 (List.mem_of_getElem? hx)
      have := List.mem_of_getElem? ha
      simp [encI] at this; subst this; exact .int
theorem av_line (x : TLine) : ∀ a, a ∈ x.enc → Av [] a := fun a ha => by
  simp [TLine.enc] at ha
  rcases ha with rfl | rfl | rfl | rfl
  · exact .int
  · exact .int
  · exact .int
  · exact av_words _

/-- Copied so far: new lines, then the old ones. -/
def cpRows (ys l : List TLine) (i : Nat) : List (List AV) := ys.map TLine.encO ++ (l.drop i).map TLine.enc
theorem cpRows_len {ys l : List TLine} {i : Nat} (h : ys.length = i) (hi : i ≤ l.length) : (cpRows ys l i).length = l.length := by simp [cpRows, h]; omega
theorem cpRows_get {ys l : List TLine} {i : Nat} (h : ys.length = i) (hi : i < l.length) : (cpRows ys l i)[i]? = some l[i].enc := by
  unfold cpRows
  rw [List.getElem?_append_right (by simp; omega), List.length_map, h, Nat.sub_self, List.drop_eq_getElem_cons hi]; rfl
theorem cpRows_set {ys l : List TLine} {i : Nat} (h : ys.length = i) (hi : i < l.length) (y : TLine) : (cpRows ys l i).set i y.encO = cpRows (ys ++ [y]) l (i + 1) := by
  unfold cpRows
  rw [List.set_append_right _ _ (by simp; omega), List.length_map, h, Nat.sub_self, List.drop_eq_getElem_cons hi, List.map_cons, List.set_cons_zero]
  simp
theorem cpRows_zero (l : List TLine) : cpRows [] l 0 = l.map TLine.enc := by simp [cpRows]
theorem cpRows_all {ys l : List TLine} : cpRows ys l l.length = ys.map TLine.encO := by simp [cpRows]

theorem impl_copyO {s : SL TLine} (hn : s.list.length ≤ 1048576) (hz : ∀ x, x ∈ s.list → x.Words.list.length ≤ 1048576) (c : Nat) :
    Con Tryz.prog 72 [s.av 4 TLine.enc] [] c fun r O _ => ∃ b : SL TLine, r = b.ref 4 ∧ O = b.wood 4 TLine.encO TLine.inn ∧ b.list.map TLine.con = s.list.map TLine.con := by
  refine con_of c72 (by simp [F72]) ?_
  unfold F72
  simp
  refine call_new (clone_con (b := 48) (z := [.int .i64 0, .int .i64 0, .int .i64 0, .nsl]) c105 (by omega) (by unfold mx; omega) _) (Views.refl _ _) fun r O c1 hc ⟨x, hr, hO, hx⟩ _ _ => ?_
  subst hr
  refine ⟨_, .refl _, free_ref _ _ _, fun o ho => ?_, ?_⟩
  · subst hO
    cases x with
    | nil => cases ho
    | mk t l =>
      rw [flat_wood] at ho
      simp only [List.mem_singleton] at ho
      subst ho
      exact avRows_of fun row hr a ha => by
        obtain ⟨y, _, rfl⟩ := List.mem_map.1 hr
        exact av_line y a ha
  simp
  cases x with
  | nil =>
    have h0 : s.list = [] := hx.symm
    have hO' : O = [] := hO
    subst hO'
    refine loop_drop 0 (fun i e H c' => e 3 = .nsl ∧ e 9 = .int .i64 0 ∧ e 10 = .int .i64 0 ∧ H = []) ⟨rfl, by simp [h0], rfl, rfl⟩ ?_
    intro i e H c' hi ⟨e3, e9, e10, hH⟩ N hN
    subst hH
    simp [e3, e9, e10]
    exact fin_all ⟨.nil, rfl, rfl, by simp [h0]⟩
  | mk t l =>
    simp only [SL.list_mk] at hx
    subst hx
    rw [flat_wood] at hO
    subst hO
    refine loop_drop s.list.length (fun i e H c' => e 3 = .ref 0 t 4 s.list.length ∧ e 8 = s.av 4 TLine.enc ∧ e 9 = .int .i64 s.list.length ∧ e 10 = .int .i64 i ∧ ∃ ys : List TLine, ys.length = i ∧ ys.map TLine.con = (s.list.take i).map TLine.con ∧ H = ⟨false, t, 4, cpRows ys s.list i⟩ :: inns ys) ⟨rfl, rfl, rfl, rfl, [], rfl, rfl, by rw [cpRows_zero]; rfl⟩ ?_
    intro i e H c' hi ⟨e3, e8, e9, e10, ys, hy, hcon, hH⟩ N hN
    subst hH
    simp [e3, e8, e9, e10]
    refine ⟨fun h => ⟨s.list[i], List.getElem?_eq_getElem h, ?_⟩, fun h => ?_⟩
    · have hlen := cpRows_len hy hi
      have hget := cpRows_get hy h
      have hset := cpRows_set hy h
      have hw := hz _ (List.getElem_mem h)
      have htk : (s.list.take (i + 1)).map TLine.con = (s.list.take i).map TLine.con ++ [s.list[i].con] := by rw [List.take_succ_eq_append_getElem h, List.map_append]; rfl
      generalize s.list[i] = x at hget hset hw htk
      simp [e3, e8, e9, e10, h]
      refine call_new (cloneIO hw _) (Views.refl _ _) fun r O c2 hc2 ⟨w, hr, hO, hwl⟩ _ _ => ?_
      subst hr; subst hO
      refine ⟨_, .refl _, free_ref _ _ _, fun o ho => flat_free encI_flat _ _ o ho _, ?_⟩
      simp [e3, e8, e9, e10, h]
      refine ⟨_, hget, ?_⟩
      simp [hlen, putA, TLine.enc]
      refine hN _ _ (⟨false, t, 4, cpRows (ys ++ [⟨x.Seq, x.Owner, x.Version, w⟩]) s.list (i + 1)⟩ :: inns (ys ++ [⟨x.Seq, x.Owner, x.Version, w⟩])) _ h ?_ ⟨by simp [upd, e3], by simp [upd, e8], by simp [upd, e9], by simp [upd]; exact step64 (by unfold mx; omega) h, ys ++ [⟨x.Seq, x.Owner, x.Version, w⟩], by simp [hy], ?_, rfl⟩
      · rw [inns_app, inns_one, ← hset]
        exact (List.Sublist.append (List.Sublist.refl _) ((List.Sublist.refl _).cons _)).cons_cons _
      · rw [List.map_append, hcon, htk]
        simp [TLine.con, SL.pcon, hwl]
    · have h1 : i = s.list.length := by omega
      subst h1
      refine fin_all ⟨.mk t ys, by simp [SL.ref, hy], by rw [wood_inns, cpRows_all], ?_⟩
      simpa using hcon

/-- Rows whose inner slices are named by their places. -/
def encX (k : Nat) (x : TLine) : List AV := [.int .i64 x.Seq, .int .i64 x.Owner, .int .i64 x.Version, x.Words.at_ k 1]
def rowsX (ks : List (Nat × TLine)) : List (List AV) := ks.map fun p => encX p.1 p.2
theorem renX (t : Nat) (ks : List (Nat × TLine)) : RenO [] ⟨false, t, 4, rowsX ks⟩ ⟨false, t, 4, (ks.map (·.2)).map TLine.encO⟩ where
  mp := rfl
  tag := rfl
  w := rfl
  len := by simp [rowsX]
  maps h := by cases h
  row r x x' h1 h2 := by
    simp only [rowsX, List.getElem?_map, Option.map_eq_some_iff] at h1 h2
    obtain ⟨p, hp, rfl⟩ := h1
    obtain ⟨y, ⟨q, hq, rfl⟩, rfl⟩ := h2
    rw [hp] at hq; cases hq
    refine ⟨rfl, fun j a a' h3 h4 => ?_⟩
    match j, h3, h4 with
    | 0, h3, h4 => simp [encX] at h3; simp [TLine.encO] at h4; exact .inl (by rw [← h3, ← h4])
    | 1, h3, h4 => simp [encX] at h3; simp [TLine.encO] at h4; exact .inl (by rw [← h3, ← h4])
    | 2, h3, h4 => simp [encX] at h3; simp [TLine.encO] at h4; exact .inl (by rw [← h3, ← h4])
    | 3, h3, h4 =>
      simp [encX] at h3; simp [TLine.encO] at h4
      subst h3; subst h4
      exact .inr ⟨cell_ref _ _, view_at' _ _ _ _⟩
    | j + 4, h3, h4 => simp [encX] at h3

theorem spec_copyM {s : SL TLine} (hn : s.list.length ≤ 1048576) (hz : ∀ x, x ∈ s.list → x.Words.list.length ≤ 1048576) (c : Nat) :
    Con Tryz.prog 60 [s.av 4 TLine.enc] [] c fun r O _ => ∃ b : SL TLine, r = b.ref 4 ∧ O = b.wood 4 TLine.encO TLine.inn ∧ b.list.map TLine.con = s.list.map TLine.con ∧ ∃ t, b = .mk t b.list := by
  refine con_of c60 (by simp [F60]) ?_
  unfold F60
  simp
  refine loop_drop s.list.length (fun i e H c' => e 0 = s.av 4 TLine.enc ∧ e 4 = .int .i64 i ∧ ∃ (t : Nat) (ks : List (Nat × TLine)), e 3 = .ref 0 t 4 i ∧ ks.length = i ∧ (ks.map (·.2)).map TLine.con = (s.list.take i).map TLine.con ∧ H = ⟨false, t, 4, rowsX ks⟩ :: inns (ks.map (·.2))) ⟨rfl, rfl, _, [], rfl, rfl, rfl, rfl⟩ ?_
  intro i e H c' hi ⟨e0, e4, t, ks, e3, hy, hcon, hH⟩ N hN
  subst hH
  have hrl : (rowsX ks).length = i := by simp [rowsX, hy]
  generalize hys : ks.map (·.2) = ys at hcon
  simp [e0, e3, e4]
  refine ⟨fun h => ⟨s.list[i], List.getElem?_eq_getElem h, ?_⟩, fun h => ?_⟩
  · have hw := hz _ (List.getElem_mem h)
    have hget : s.list[i]? = some s.list[i] := List.getElem?_eq_getElem h
    have htk : (s.list.take (i + 1)).map TLine.con = (s.list.take i).map TLine.con ++ [s.list[i].con] := by rw [List.take_succ_eq_append_getElem h, List.map_append]; rfl
    generalize s.list[i] = x at hget hw htk
    simp [e0, e3, e4, h]
    refine ⟨_, hget, ?_⟩
    have m1 : x.Words.list.length * 8 ≤ 140737488355328 := by omega
    have m2 : x.Words.list.length ≤ mx := by unfold mx; omega
    have m3 : (i + 1) * 48 ≤ 140737488355328 := by omega
    have m4 : i + 1 ≤ mx := by unfold mx; omega
    simp [e0, e3, e4, h, m1, m2, m3, m4, hrl, putA, TLine.enc]
    refine hN _ _ (⟨false, c' + 1 + 1 + 1 + 1, 4, rowsX (ks ++ [((inns ys).length + 1 + 1, TLine.mk x.Seq x.Owner x.Version (.mk (c' + 1 + 1) x.Words.list))])⟩ :: inns ((ks ++ [((inns ys).length + 1 + 1, TLine.mk x.Seq x.Owner x.Version (.mk (c' + 1 + 1) x.Words.list))]).map (·.2))) _ h ?_
      ⟨by simp [upd, e0], by simp [upd]; exact step64 (by unfold mx; omega) h, c' + 1 + 1 + 1 + 1, _, by simp [upd], by simp [hy], ?_, rfl⟩
    · rw [List.map_append, inns_app, hys]
      have e1 : rowsX (ks ++ [((inns ys).length + 1 + 1, TLine.mk x.Seq x.Owner x.Version (.mk (c' + 1 + 1) x.Words.list))]) = rowsX ks ++ [[.int .i64 x.Seq, .int .i64 x.Owner, .int .i64 x.Version, .ref ((inns ys).length + 1 + 1) (c' + 1 + 1) 1 x.Words.list.length]] := by
        simp [rowsX, encX, SL.at_]
      rw [e1]
      refine List.Sublist.cons_cons _ (List.Sublist.append (List.Sublist.refl _) ?_)
      simp only [List.map_cons, List.map_nil, inns_one, TLine.inn, flat_wood]
      exact ((List.nil_sublist _).cons_cons _).cons _
    · rw [List.map_append, List.map_append, hys, hcon, htk]
      simp [TLine.con, SL.pcon]
  · have h1 : i = s.list.length := by omega
    subst h1
    refine fin_ren (List.Sublist.refl _) (.cons (renX t ks) (.refl _ _)) (.refl _) ⟨.mk t ys, ?_, ?_, ?_, t, rfl⟩
    · subst hys; simp [SL.ref, hy]
    · rw [wood_inns, hys]
    · simpa using hcon

theorem spec_copyO {s : SL TLine} (hn : s.list.length ≤ 1048576) (hz : ∀ x, x ∈ s.list → x.Words.list.length ≤ 1048576) (c : Nat) :
    Con Tryz.prog 60 [s.av 4 TLine.enc] [] c fun r O _ => ∃ b : SL TLine, r = b.ref 4 ∧ O = b.wood 4 TLine.encO TLine.inn ∧ b.list.map TLine.con = s.list.map TLine.con :=
  (spec_copyM hn hz c).mono fun r H' c' _ ⟨b, h1, h2, h3, _⟩ => ⟨b, h1, h2, h3⟩

/-- A line, recovered. -/
def recL (owner : Int) (x : TLine) : TLine := if x.Owner = owner then ⟨x.Seq + 1, 0, 0, .nil⟩ else x
theorem mixM_flat {f : TLine → TLine} {l : List TLine} {i : Nat} (h : i < l.length) : inns (mixM f l i) = inns ((l.take i).map f) ++ (l[i].inn ++ inns (l.drop (i + 1))) := by
  unfold mixM
  rw [List.drop_eq_getElem_cons h, inns_app, inns_cons]
theorem mixM_flat' {f : TLine → TLine} {l : List TLine} {i : Nat} (h : i < l.length) : inns (mixM f l (i + 1)) = inns ((l.take i).map f) ++ ((f l[i]).inn ++ inns (l.drop (i + 1))) := by
  unfold mixM
  rw [List.take_succ_eq_append_getElem h, List.map_append, inns_app, inns_app]
  simp [inns_one]

theorem spec_recoverO1 {l : List TLine} {owner : Int} (hn : l.length ≤ 1048576) (hz : ∀ x, x ∈ l → 0 ≤ x.Seq ∧ x.Seq ≤ 1000000000000000) (t c : Nat) :
    Con Tryz.prog 65 [.ref 0 t 4 l.length, .int .i64 owner] (⟨false, t, 4, l.map TLine.encO⟩ :: inns l) c fun r O _ => r = .tup [] ∧ O = ⟨false, t, 4, (l.map (recL owner)).map TLine.encO⟩ :: inns (l.map (recL owner)) := by
  refine con_of c65 (by simp [F65]) ?_
  unfold F65
  simp
  refine loop_drop l.length (fun i e H c' => e 0 = .ref 0 t 4 l.length ∧ e 1 = .int .i64 owner ∧ e 4 = .int .i64 i ∧ H = ⟨false, t, 4, (mixM (recL owner) l i).map TLine.encO⟩ :: inns (mixM (recL owner) l i)) ⟨rfl, rfl, rfl, by rw [mixM_zero]⟩ ?_
  intro i e H c' hi ⟨e0, e1, e4, hH⟩ N hN
  subst hH
  simp [e0, e1, e4]
  refine ⟨fun h => ?_, fun h => ?_⟩
  · have hget := mixM_get (recL owner) h
    have hset := mixM_set (recL owner) h
    have hsame := mixM_same (recL owner) h
    have hq := hz _ (List.getElem_mem h)
    have hf := mixM_flat (f := recL owner) h
    have hf' := mixM_flat' (f := recL owner) h
    generalize l[i] = x at hget hset hsame hq hf hf'
    have w1 : IntKind.i64.wrap (x.Seq + 1) = x.Seq + 1 := wrap64 (by omega) (by omega)
    refine ⟨h, x, hget, ?_⟩
    by_cases hw : x.Owner = owner
    · simp [e0, e1, e4, hw, h]
      refine ⟨x, hget, ?_⟩
      simp [putA, w1, h]
      refine ⟨x, hget, ?_⟩
      simp [e0, e1, e4]
      have hr : recL owner x = ⟨x.Seq + 1, 0, 0, .nil⟩ := by simp [recL, hw]
      refine hN _ _ (⟨false, t, 4, (mixM (recL owner) l (i + 1)).map TLine.encO⟩ :: inns (mixM (recL owner) l (i + 1))) _ h ?_ ⟨by simp [upd, e0], by simp [upd, e1], by simp [upd]; exact step64 (by unfold mx; omega) h, rfl⟩
      rw [hf, hf', ← hset, hr, List.map_set]
      refine List.Sublist.cons_cons _ (List.Sublist.append (List.Sublist.refl _) ?_)
      exact List.sublist_append_right _ _
    · simp [e0, e1, e4, hw, h]
      refine hN _ _ _ _ h (List.Sublist.refl _) ⟨by simp [upd, e0], by simp [upd, e1], by simp [upd]; exact step64 (by unfold mx; omega) h, ?_⟩
      rw [hsame (by simp [recL, hw])]
  · have h1 : i = l.length := by omega
    subst h1
    refine fin_all ⟨rfl, ?_⟩
    rw [mixM_all]
    simp

theorem impl_recoverO1 {l : List TLine} {owner : Int} (hn : l.length ≤ 1048576) (hz : ∀ x, x ∈ l → 0 ≤ x.Seq ∧ x.Seq ≤ 1000000000000000) (t c : Nat) :
    Con Tryz.prog 78 [.ref 0 t 4 l.length, .int .i64 owner] (⟨false, t, 4, l.map TLine.encO⟩ :: inns l) c fun r O _ => r = .tup [] ∧ O = ⟨false, t, 4, (l.map (recL owner)).map TLine.encO⟩ :: inns (l.map (recL owner)) := by
  refine con_of c78 (by simp [F78]) ?_
  unfold F78
  simp
  refine loop_drop l.length (fun i e H c' => e 0 = .ref 0 t 4 l.length ∧ e 1 = .int .i64 owner ∧ e 6 = .ref 0 t 4 l.length ∧ e 7 = .int .i64 l.length ∧ e 8 = .int .i64 i ∧ H = ⟨false, t, 4, (mixM (recL owner) l i).map TLine.encO⟩ :: inns (mixM (recL owner) l i)) ⟨rfl, rfl, rfl, rfl, rfl, by rw [mixM_zero]⟩ ?_
  intro i e H c' hi ⟨e0, e1, e6, e7, e8, hH⟩ N hN
  subst hH
  simp [e0, e1, e6, e7, e8]
  refine ⟨fun h => ?_, fun h => ?_⟩
  · have hget := mixM_get (recL owner) h
    have hset := mixM_set (recL owner) h
    have hsame := mixM_same (recL owner) h
    have hq := hz _ (List.getElem_mem h)
    have hf := mixM_flat (f := recL owner) h
    have hf' := mixM_flat' (f := recL owner) h
    generalize l[i] = x at hget hset hsame hq hf hf'
    have w1 : IntKind.i64.wrap (x.Seq + 1) = x.Seq + 1 := wrap64 (by omega) (by omega)
    have hx0 : x.encO.take 4 = x.encO := rfl
    refine ⟨h, x, hget, ?_⟩
    simp [TLine.lenO, hx0]
    by_cases hw : x.Owner = owner
    · simp [e0, e1, e6, e7, e8, hw, h, putA, w1]
      refine ⟨x, hget, ?_⟩
      simp [putA, w1, h, e0, e1, e6, e7, e8, TLine.lenO]
      have hr : recL owner x = ⟨x.Seq + 1, 0, 0, .nil⟩ := by simp [recL, hw]
      refine hN _ _ (⟨false, t, 4, (mixM (recL owner) l (i + 1)).map TLine.encO⟩ :: inns (mixM (recL owner) l (i + 1))) _ h ?_ ⟨by simp [upd, e0], by simp [upd, e1], by simp [upd, e6], by simp [upd, e7], by simp [upd]; exact step64 (by unfold mx; omega) h, rfl⟩
      rw [hf, hf', ← hset, hr, List.map_set]
      refine List.Sublist.cons_cons _ ?_
      simp only [List.append_assoc]
      refine List.Sublist.append (List.Sublist.refl _) ?_
      exact (List.sublist_append_left _ _).trans (List.sublist_append_right _ _)
    · simp [e0, e1, e6, e7, e8, hw, h]
      refine hN _ _ _ _ h ?_ ⟨by simp [upd, e0], by simp [upd, e1], by simp [upd, e6], by simp [upd, e7], by simp [upd]; exact step64 (by unfold mx; omega) h, rfl⟩
      rw [hsame (by simp [recL, hw])]
      exact List.Sublist.cons_cons _ (List.sublist_append_left _ _)
  · have h1 : i = l.length := by omega
    subst h1
    refine fin_all ⟨rfl, ?_⟩
    rw [mixM_all]
    simp

theorem spec_recoverO {s : SL TLine} {owner : Int} (hn : s.list.length ≤ 1048576) (hz : ∀ x, x ∈ s.list → 0 ≤ x.Seq ∧ x.Seq ≤ 1000000000000000) (c : Nat) :
    Con Tryz.prog 65 [s.ref 4, .int .i64 owner] (s.wood 4 TLine.encO TLine.inn) c fun r O _ => r = .tup [] ∧ O = (s.lmap (·.map (recL owner))).wood 4 TLine.encO TLine.inn := by
  cases s with
  | mk t l => exact spec_recoverO1 (l := l) hn hz t c
  | nil =>
    refine con_of c65 (by simp [F65]) ?_
    unfold F65
    simp [ref_nil]
    refine loop_drop 0 (fun i e H c' => e 0 = .nsl ∧ e 4 = .int .i64 0 ∧ H = []) ⟨rfl, rfl, rfl⟩ ?_
    intro i e H c' hi ⟨e0, e4, hH⟩ N hN
    subst hH
    simp [e0, e4]
    exact fin_all ⟨rfl, rfl⟩
theorem impl_recoverO {s : SL TLine} {owner : Int} (hn : s.list.length ≤ 1048576) (hz : ∀ x, x ∈ s.list → 0 ≤ x.Seq ∧ x.Seq ≤ 1000000000000000) (c : Nat) :
    Con Tryz.prog 78 [s.ref 4, .int .i64 owner] (s.wood 4 TLine.encO TLine.inn) c fun r O _ => r = .tup [] ∧ O = (s.lmap (·.map (recL owner))).wood 4 TLine.encO TLine.inn := by
  cases s with
  | mk t l => exact impl_recoverO1 (l := l) hn hz t c
  | nil =>
    refine con_of c78 (by simp [F78]) ?_
    unfold F78
    simp [ref_nil]
    refine loop_drop 0 (fun i e H c' => e 7 = .int .i64 0 ∧ e 8 = .int .i64 0 ∧ H = []) ⟨rfl, rfl, rfl⟩ ?_
    intro i e H c' hi ⟨e7, e8, hH⟩ N hN
    subst hH
    simp [e7, e8]
    exact fin_all ⟨rfl, rfl⟩

theorem areLines_seq {l : List TLine} (h : areLines l = true) : ∀ x, x ∈ l → 0 ≤ x.Seq ∧ x.Seq ≤ 1000000000000 := fun x hx => by
  unfold areLines at h
  simp only [Bool.and_eq_true, List.all_eq_true] at h
  have := h.1 x hx
  unfold lineOk at this
  simp only [Bool.and_eq_true] at this
  exact inR_true this.1.1.1.1
/-- The objects stand in no order, and some may be let go. -/
theorem con_perm {P : Program} {f : Nat} {args : List AV} {H : List AObj} {c : Nat} {Q Q' : AV → List AObj → Nat → Prop} (h : Con P f args H c Q) (hq : ∀ r H' c', Q r H' c' → ∃ Hs H2, Hs.Sublist H' ∧ H2.Perm Hs ∧ Q' r H2 c') : Con P f args H c Q' := by
  intro G w vs e I hs hr
  refine (h G w vs e I hs hr).mono fun en w' ⟨v, res, H', G', h1, h2, h3, h4, h5⟩ => ?_
  obtain ⟨Hs, H2, hsub, hp, q⟩ := hq _ _ _ h2
  have h3 := h3.drop hsub
  have h4 := h4.drop hsub
  have ht : ∀ t, t ∈ tags H2 ↔ t ∈ tags Hs := fun t => (hp.map _).mem_iff
  refine ⟨v, res, H2, G', h1, q, ⟨h3.x, h3.os, h3.tape, h3.output, h3.size, h3.frame, h3.newm, fun t a b => h3.oldH t a ((ht t).1 b), h3.oldF⟩, ⟨h4.fz, fun o ho => h4.obj o (hp.mem_iff.1 ho), fun t a => h4.nfz t ((ht t).1 a), (hp.map _).nodup_iff.2 h4.nodup, fun t t' a b => h4.inj t t' (a.imp id (ht t).1) (b.imp id (ht t').1)⟩, h5⟩

theorem renSet {t w i : Nat} {rows : List (List AV)} {row row' : List AV} (hl : row'.length = row.length) (h : ∀ (j : Nat) (a a' : AV), row[j]? = some a → row'[j]? = some a' → a' = a ∨ (a'.cell = true ∧ View [] a a')) :
    RenO [] ⟨false, t, w, rows.set i row⟩ ⟨false, t, w, rows.set i row'⟩ where
  mp := rfl
  tag := rfl
  w := rfl
  len := by simp
  maps h := by cases h
  row r x x' h1 h2 := by
    by_cases hr : i = r
    · subst hr
      rw [List.getElem?_set_self'] at h1 h2
      simp only [Option.map_eq_map, Option.map_eq_some_iff, Function.const] at h1 h2
      obtain ⟨_, _, rfl⟩ := h1
      obtain ⟨_, _, rfl⟩ := h2
      exact ⟨hl, h⟩
    · rw [List.getElem?_set_ne hr] at h1 h2
      rw [h1] at h2; cases h2
      exact ⟨rfl, fun j a a' h3 h4 => by rw [h3] at h4; cases h4; exact .inl rfl⟩

theorem inns_at {l : List TLine} {i : Nat} (h : i < l.length) : inns l = inns (l.take i) ++ (l[i].inn ++ inns (l.drop (i + 1))) := by
  rw [← inns_cons, ← List.drop_eq_getElem_cons h, ← inns_app, List.take_append_drop]
theorem inns_set {l : List TLine} {i : Nat} (h : i < l.length) (z : TLine) : inns (l.set i z) = inns (l.take i) ++ (z.inn ++ inns (l.drop (i + 1))) := by
  rw [List.set_eq_take_append_cons_drop, if_pos h, inns_app, inns_cons]

end A
end Go.Proofs.YtfcimcoanlgldaaGreat

/-
  The program's copies of a server and its parts, kept as0 objects. No condition.
-/


namespace Go.Proofs.YtfcimcoanlgldaaGreat
namespace A
set_option linter.unusedVariables false
set_option linter.unusedSimpArgs false
set_option maxRecDepth 100000

theorem clonePO {s : SL TPair} (hn : s.list.length ≤ 1048576) (c : Nat) : Con Tryz.prog 107 [s.av 2 TPair.enc] [] c fun r O _ => ∃ x : SL TPair, r = x.ref 2 ∧ O = x.wood 2 TPair.enc noInn ∧ x.list = s.list :=
  clone_con (b := 32) (z := [.str [], .str []]) c107 (by omega) (by unfold mx; omega) c
theorem cloneFO {s : SL TFile} (hn : s.list.length ≤ 1048576) (c : Nat) : Con Tryz.prog 53 [s.av 3 TFile.enc] [] c fun r O _ => ∃ x : SL TFile, r = x.ref 3 ∧ O = x.wood 3 TFile.enc noInn ∧ x.list = s.list :=
  clone_con (b := 40) (z := [.str [], .str [], .int .i64 0]) c53 (by omega) (by unfold mx; omega) c
theorem cloneHO {s : SL THeader} (hn : s.list.length ≤ 1048576) (c : Nat) : Con Tryz.prog 76 [s.av 2 THeader.enc] [] c fun r O _ => ∃ x : SL THeader, r = x.ref 2 ∧ O = x.wood 2 THeader.enc noInn ∧ x.list = s.list :=
  clone_con (b := 32) (z := [.str [], .str []]) c76 (by omega) (by unfold mx; omega) c
theorem cloneSO' {s : SL TSession} (hn : s.list.length ≤ 1048576) (c : Nat) : Con Tryz.prog 73 [s.av 4 TSession.enc] [] c fun r O _ => ∃ x : SL TSession, r = x.ref 4 ∧ O = x.wood 4 TSession.enc noInn ∧ x.list = s.list :=
  clone_con (b := 48) (z := [.str [], .str [], .int .i64 0, .int .i64 0]) c73 (by omega) (by unfold mx; omega) c

def SmR (x : TRequest) : Prop := x.Query.list.length ≤ 1048576 ∧ x.Cookies.list.length ≤ 1048576
theorem impl_cpReqO {x : TRequest} (h : SmR x) (c : Nat) : Con Tryz.prog 75 [.agg x.enc] [] c fun r O _ => ∃ b : TRequest, r = .agg b.encO ∧ O = b.inn ∧ b.con = x.con := by
  refine con_of c75 (by simp [F75]) ?_
  unfold F75
  simp [putA]
  refine call_new (clonePO h.1 _) (Views.refl _ _) fun r1 O1 c1 hc1 ⟨b1, hr, hO, q1⟩ _ _ => ?_
  subst hr; subst hO
  refine ⟨_, .refl _, free_ref _ _ _, fun o ho => flat_free TPair.flat _ _ o ho _, ?_⟩
  simp [putA]
  refine call_new (clonePO h.2 _) (Views.refl _ _) fun r2 O2 c2 hc2 ⟨b2, hr, hO, q2⟩ _ _ => ?_
  subst hr; subst hO
  refine ⟨_, .refl _, free_ref _ _ _, fun o ho => flat_free TPair.flat _ _ o ho _, ?_⟩
  simp [putA]
  refine fin_sub (Hk := b1.wood 2 TPair.enc noInn ++ (b2.wood 2 TPair.enc noInn)) ?_ (.refl _) ⟨⟨x.Path, b1, b2⟩, rfl, rfl, by simp [TRequest.con, SL.con, SL.pcon, q1, q2]⟩
  exact ((List.Sublist.refl _).cons _).cons _
theorem impl_cpJobO {x : TJob} (h : SmR x.Request) (c : Nat) : Con Tryz.prog 74 [.agg x.enc] [] c fun r O _ => ∃ b : TJob, r = .agg b.encO ∧ O = b.inn ∧ b.con = x.con := by
  refine con_of c74 (by simp [F74]) ?_
  unfold F74
  simp [putA]
  refine call_new (impl_cpReqO h _) (Views.refl _ _) fun r1 O1 c1 hc1 ⟨b1, hr, hO, q1⟩ _ _ => ?_
  subst hr; subst hO
  refine ⟨_, .refl _, free_agg (TRequest.freeO b1) _, fun o ho => TRequest.freeI b1 o ho _, ?_⟩
  simp [putA]
  refine fin_sub (Hk := b1.inn) ?_ (.refl _) ⟨⟨x.Id, b1, x.Session⟩, rfl, rfl, by simp [TJob.con, SL.con, SL.pcon, q1]⟩
  exact ((List.Sublist.refl _).cons _).cons _

@[simp] theorem getW_midX {α : Type} (A T M : List α) (X W : α) (K : α → Prop) : getW (A ++ X :: (T ++ W :: M)) (A.length + (T.length + 1)) K = K W :=
  getW_of (by rw [List.getElem?_append_right (by omega), Nat.add_sub_cancel_left, List.getElem?_cons_succ, List.getElem?_append_right (Nat.le_refl _)]; simp) K
@[simp] theorem set_midX {α : Type} (A T M : List α) (X W Y : α) : (A ++ X :: (T ++ W :: M)).set (A.length + (T.length + 1)) Y = A ++ X :: (T ++ Y :: M) := by
  rw [List.set_append_right _ _ (by omega), Nat.add_sub_cancel_left, List.set_cons_succ, List.set_append_right _ _ (Nat.le_refl _), Nat.sub_self, List.set_cons_zero]
/-- A list that grows: not begun, or an object among others. -/
def Live {α : Type} (w : Nat) (encO : α → List AV) (inn : α → List AObj) (ys : List α) (v : AV) (T X : List AObj) : Prop :=
  ∃ G : List AObj, (ys = [] ∧ v = .nsl ∧ T.Perm (X ++ G)) ∨ ∃ (P B : List AObj) (t : Nat), v = .ref (P.length + 3) t w ys.length ∧ T = P ++ ⟨false, t, w, ys.map encO⟩ :: B ∧ (P ++ B).Perm (ys.flatMap inn ++ (X ++ G))
@[simp] theorem getW_mid3 {α : Type} (A B I M : List α) (X Y W : α) (K : α → Prop) : getW (A ++ X :: (B ++ Y :: (I ++ W :: M))) (A.length + (B.length + (I.length + 1) + 1)) K = K W := by
  have e : A ++ X :: (B ++ Y :: (I ++ W :: M)) = (A ++ X :: (B ++ Y :: I)) ++ W :: M := by simp
  have e2 : A.length + (B.length + (I.length + 1) + 1) = (A ++ X :: (B ++ Y :: I)).length := by simp
  rw [e, e2, getW_len]
@[simp] theorem getW_t2 {α : Type} (T I J M : List α) (Y W : α) (K : α → Prop) : getW (T ++ Y :: (I ++ (J ++ W :: M))) (T.length + (I.length + J.length + 1)) K = K W := by
  have e : T ++ Y :: (I ++ (J ++ W :: M)) = (T ++ Y :: (I ++ J)) ++ W :: M := by simp
  have e2 : T.length + (I.length + J.length + 1) = (T ++ Y :: (I ++ J)).length := by simp
  rw [e, e2, getW_len]
@[simp] theorem getW_m2 {α : Type} (P B I J M : List α) (X Y W : α) (K : α → Prop) : getW (P ++ X :: (B ++ Y :: (I ++ (J ++ W :: M)))) (P.length + (B.length + (I.length + J.length + 1) + 1)) K = K W := by
  have e : P ++ X :: (B ++ Y :: (I ++ (J ++ W :: M))) = (P ++ X :: (B ++ Y :: (I ++ J))) ++ W :: M := by simp
  have e2 : P.length + (B.length + (I.length + J.length + 1) + 1) = (P ++ X :: (B ++ Y :: (I ++ J))).length := by simp
  rw [e, e2, getW_len]
@[simp] theorem getW_t3 {α : Type} (T I J L M : List α) (Y W : α) (K : α → Prop) : getW (T ++ Y :: (I ++ (J ++ (L ++ W :: M)))) (T.length + (I.length + (J.length + L.length) + 1)) K = K W := by
  have e : T ++ Y :: (I ++ (J ++ (L ++ W :: M))) = (T ++ Y :: (I ++ (J ++ L))) ++ W :: M := by simp
  have e2 : T.length + (I.length + (J.length + L.length) + 1) = (T ++ Y :: (I ++ (J ++ L))).length := by simp
  rw [e, e2, getW_len]
@[simp] theorem getW_m3 {α : Type} (P B I J L M : List α) (X Y W : α) (K : α → Prop) : getW (P ++ X :: (B ++ Y :: (I ++ (J ++ (L ++ W :: M))))) (P.length + (B.length + (I.length + (J.length + L.length) + 1) + 1)) K = K W := by
  have e : P ++ X :: (B ++ Y :: (I ++ (J ++ (L ++ W :: M)))) = (P ++ X :: (B ++ Y :: (I ++ (J ++ L)))) ++ W :: M := by simp
  have e2 : P.length + (B.length + (I.length + (J.length + L.length) + 1) + 1) = (P ++ X :: (B ++ Y :: (I ++ (J ++ L)))).length := by simp
  rw [e, e2, getW_len]
theorem perm_cnt {l m : List AObj} (h : ∀ p : AObj → Bool, l.countP p = m.countP p) : l.Perm m := by
  haveI : DecidableEq AObj := fun a b => Classical.propDecidable (a = b)
  exact List.perm_iff_count.2 fun a => h _
theorem Live.step0 {α : Type} {w : Nat} {encO : α → List AV} {inn : α → List AObj} {T X I G : List AObj} {g1 g2 : AObj} {b : α} {t : Nat} (h : T.Perm (X ++ G)) (hI : I.Perm (inn b)) :
    Live w encO inn [b] (.ref (T.length + (I.length + 1 + 1) + 1 + 1 + 1) t w 1) (T ++ g1 :: (I ++ [g2, ⟨false, t, w, [encO b]⟩])) X := by
  refine ⟨g1 :: g2 :: G, .inr ⟨T ++ g1 :: (I ++ [g2]), [], t, by simp, by simp, perm_cnt fun p => ?_⟩⟩
  have h1 := h.countP_eq p
  have h2 := hI.countP_eq p
  simp only [List.countP_append, List.countP_cons, List.countP_nil, List.flatMap_cons, List.flatMap_nil, List.append_nil] at h1 h2 ⊢
  omega
theorem Live.step1 {α : Type} {w : Nat} {encO : α → List AV} {inn : α → List AObj} {P B X I G : List AObj} {g1 g2 : AObj} {ys : List α} {b : α} {t n : Nat} (h : (P ++ B).Perm (ys.flatMap inn ++ (X ++ G))) (hI : I.Perm (inn b)) (hn : ys.length = n) :
    Live w encO inn (ys ++ [b]) (.ref (P.length + 3) t w (n + 1)) (P ++ ⟨false, t, w, ys.map encO ++ [encO b]⟩ :: (B ++ g1 :: (I ++ [g2]))) X := by
  refine ⟨g1 :: g2 :: G, .inr ⟨P, B ++ g1 :: (I ++ [g2]), t, by simp [hn], by simp, perm_cnt fun p => ?_⟩⟩
  have h1 := h.countP_eq p
  have h2 := hI.countP_eq p
  simp only [List.countP_append, List.countP_cons, List.countP_nil, List.flatMap_cons, List.flatMap_nil, List.append_nil, List.flatMap_append] at h1 h2 ⊢
  omega
theorem Live.two0 {α : Type} {w : Nat} {encO : α → List AV} {inn : α → List AObj} {T X G : List AObj} {g1 g2 : AObj} {b : α} {t n : Nat} (I J : List AObj) (h : T.Perm (X ++ G)) (hI : (I ++ J).Perm (inn b)) (hn : n = T.length + I.length + J.length + 5) :
    Live w encO inn [b] (.ref n t w 1) (T ++ g1 :: (I ++ (J ++ [g2, ⟨false, t, w, [encO b]⟩]))) X := by
  refine ⟨g1 :: g2 :: G, .inr ⟨T ++ g1 :: (I ++ (J ++ [g2])), [], t, by subst hn; simp; omega, by simp, perm_cnt fun p => ?_⟩⟩
  have h1 := h.countP_eq p
  have h2 := hI.countP_eq p
  simp only [List.countP_append, List.countP_cons, List.countP_nil, List.flatMap_cons, List.flatMap_nil, List.append_nil, List.flatMap_append] at h1 h2 ⊢
  omega
theorem Live.two1 {α : Type} {w : Nat} {encO : α → List AV} {inn : α → List AObj} {P B X G : List AObj} {g1 g2 : AObj} {ys : List α} {b : α} {t n : Nat} (I J : List AObj) (h : (P ++ B).Perm (ys.flatMap inn ++ (X ++ G))) (hI : (I ++ J).Perm (inn b)) (hn : ys.length = n) :
    Live w encO inn (ys ++ [b]) (.ref (P.length + 3) t w (n + 1)) (P ++ ⟨false, t, w, ys.map encO ++ [encO b]⟩ :: (B ++ g1 :: (I ++ (J ++ [g2])))) X := by
  refine ⟨g1 :: g2 :: G, .inr ⟨P, B ++ g1 :: (I ++ (J ++ [g2])), t, by simp [hn], by simp, perm_cnt fun p => ?_⟩⟩
  have h1 := h.countP_eq p
  have h2 := hI.countP_eq p
  simp only [List.countP_append, List.countP_cons, List.countP_nil, List.flatMap_cons, List.flatMap_nil, List.append_nil, List.flatMap_append] at h1 h2 ⊢
  omega
theorem Live.three0 {α : Type} {w : Nat} {encO : α → List AV} {inn : α → List AObj} {T X G : List AObj} {g1 g2 : AObj} {b : α} {t n : Nat} (I J L : List AObj) (h : T.Perm (X ++ G)) (hI : (I ++ (J ++ L)).Perm (inn b)) (hn : n = T.length + I.length + J.length + L.length + 5) :
    Live w encO inn [b] (.ref n t w 1) (T ++ g1 :: (I ++ (J ++ (L ++ [g2, ⟨false, t, w, [encO b]⟩])))) X := by
  refine ⟨g1 :: g2 :: G, .inr ⟨T ++ g1 :: (I ++ (J ++ (L ++ [g2]))), [], t, by subst hn; simp; omega, by simp, perm_cnt fun p => ?_⟩⟩
  have h1 := h.countP_eq p
  have h2 := hI.countP_eq p
  simp only [List.countP_append, List.countP_cons, List.countP_nil, List.flatMap_cons, List.flatMap_nil, List.append_nil, List.flatMap_append] at h1 h2 ⊢
  omega
theorem Live.three1 {α : Type} {w : Nat} {encO : α → List AV} {inn : α → List AObj} {P B X G : List AObj} {g1 g2 : AObj} {ys : List α} {b : α} {t n : Nat} (I J L : List AObj) (h : (P ++ B).Perm (ys.flatMap inn ++ (X ++ G))) (hI : (I ++ (J ++ L)).Perm (inn b)) (hn : ys.length = n) :
    Live w encO inn (ys ++ [b]) (.ref (P.length + 3) t w (n + 1)) (P ++ ⟨false, t, w, ys.map encO ++ [encO b]⟩ :: (B ++ g1 :: (I ++ (J ++ (L ++ [g2]))))) X := by
  refine ⟨g1 :: g2 :: G, .inr ⟨P, B ++ g1 :: (I ++ (J ++ (L ++ [g2]))), t, by simp [hn], by simp, perm_cnt fun p => ?_⟩⟩
  have h1 := h.countP_eq p
  have h2 := hI.countP_eq p
  simp only [List.countP_append, List.countP_cons, List.countP_nil, List.flatMap_cons, List.flatMap_nil, List.append_nil, List.flatMap_append] at h1 h2 ⊢
  omega
theorem Live.zero {α : Type} (w : Nat) (encO : α → List AV) (inn : α → List AObj) (T : List AObj) : Live w encO inn [] .nsl T T := ⟨[], .inl ⟨rfl, rfl, by simp⟩⟩
theorem Live.fin {α : Type} {w : Nat} {encO : α → List AV} {inn : α → List AObj} {ys : List α} {v : AV} {T X : List AObj} (h : Live w encO inn ys v T X) : ∃ (s : SL α) (G : List AObj), s.list = ys ∧ View [] v (s.ref w) ∧ T.Perm (s.wood w encO inn ++ (X ++ G)) := by
  obtain ⟨G, ⟨h1, h2, h3⟩ | ⟨P, B, t, h1, h2, h3⟩⟩ := h
  · subst h1; subst h2
    exact ⟨.nil, G, rfl, .refl _, by simpa [SL.wood] using h3⟩
  · subst h1; subst h2
    refine ⟨.mk t ys, G, rfl, .name, ?_⟩
    show (P ++ _ :: B).Perm (_ :: ys.flatMap inn ++ (X ++ G))
    exact List.perm_middle.trans (List.Perm.cons _ h3)

def SmSrv (s : TServer) : Prop := s.Files.list.length ≤ 1048576 ∧ s.Lines.list.length ≤ 1048576 ∧ (∀ x, x ∈ s.Lines.list → x.Words.list.length ≤ 1048576) ∧ s.Sessions.list.length ≤ 1048576 ∧ s.Queue.list.length ≤ 1048576 ∧ (∀ x, x ∈ s.Queue.list → SmR x.Request) ∧
  s.Workers.list.length ≤ 1048576 ∧ (∀ x, x ∈ s.Workers.list → SmR x.Job.Request ∧ x.Files.list.length ≤ 1048576) ∧ s.Done.list.length ≤ 1048576 ∧ ∀ x, x ∈ s.Done.list → SmR x.Request ∧ x.Files.list.length ≤ 1048576 ∧ x.Response.Headers.list.length ≤ 1048576
theorem impl_cpSrvK {s : TServer} (hs : SmSrv s) (c : Nat) : Con Tryz.prog 29 [.agg s.enc] [] c fun r O _ => ∃ (b : TServer) (v1 v2 v3 : AV) (U T G : List AObj), r = .agg [b.Files.ref 3, b.Lines.ref 4, b.Sessions.ref 4, v1, v2, v3, .int .i64 b.Next, .int .i64 b.Now] ∧ View [] v1 (b.Queue.ref 5) ∧ View [] v2 (b.Workers.ref 9) ∧ View [] v3 (b.Done.ref 11) ∧
    O = U ++ T ∧ T.Perm (b.inn ++ G) ∧ b.con = s.con := by
  obtain ⟨z1, z2, z3, z4, z5, z6, z7, z8, z9, z10⟩ := hs
  refine con_of c29 (by simp [F29]) ?_
  unfold F29
  simp [putA]
  refine call_new (cloneFO z1 _) (Views.refl _ _) fun r1 O1 c1 hc1 ⟨bF, hr, hO, qF⟩ _ _ => ?_
  subst hr; subst hO
  refine ⟨_, .refl _, free_ref _ _ _, fun o ho => flat_free TFile.flat _ _ o ho _, ?_⟩
  simp [putA]
  refine call_new (impl_copyO z2 z3 _) (Views.refl _ _) fun r1 O1 c2 hc2 ⟨bL, hr, hO, qL⟩ _ _ => ?_
  subst hr; subst hO
  refine ⟨_, .refl _, free_ref _ _ _, fun o ho => free_wood TLine.freeO TLine.freeI _ o ho _, ?_⟩
  simp [putA]
  refine call_new (cloneSO' z4 _) (Views.refl _ _) fun r1 O1 c3 hc3 ⟨bS, hr, hO, qS⟩ _ _ => ?_
  subst hr; subst hO
  refine ⟨_, .refl _, free_ref _ _ _, fun o ho => flat_free TSession.flat _ _ o ho _, ?_⟩
  simp [putA, TServer.enc]
  generalize hW : bF.wood 3 TFile.enc noInn ++ (bL.wood 4 TLine.encO TLine.inn ++ bS.wood 4 TSession.enc noInn) = W
  refine loop_drop s.Queue.list.length (fun i e H c' => e 1 = .ptr 0 c 8 0 0 ∧ e 2 = .ptr 1 (c + 1) 8 0 0 ∧ e 3 = .ptr 2 (c + 1 + 1) 8 0 0 ∧ e 25 = s.Queue.av 5 TJob.enc ∧ e 26 = .int .i64 s.Queue.list.length ∧ e 27 = .int .i64 i ∧ ∃ (ys : List TJob) (v : AV) (T : List AObj), ys.length = i ∧ ys.map TJob.con = (s.Queue.list.take i).map TJob.con ∧ Live 5 TJob.encO TJob.inn ys v T W ∧
    H = ⟨false, c, 8, [[s.Files.av 3 TFile.enc, s.Lines.av 4 TLine.enc, s.Sessions.av 4 TSession.enc, s.Queue.av 5 TJob.enc, s.Workers.av 9 TWorker.enc, s.Done.av 11 TAnswer.enc, .int .i64 s.Next, .int .i64 s.Now]]⟩ :: ⟨false, c + 1, 8, [[.nsl, .nsl, .nsl, .nsl, .nsl, .nsl, .int .i64 0, .int .i64 0]]⟩ ::
      ⟨false, c + 1 + 1, 8, [[bF.ref 3, bL.ref 4, bS.ref 4, v, s.Workers.av 9 TWorker.enc, s.Done.av 11 TAnswer.enc, .int .i64 s.Next, .int .i64 s.Now]]⟩ :: T) ⟨rfl, rfl, rfl, rfl, rfl, rfl, [], .nsl, W, rfl, rfl, Live.zero .., rfl⟩ ?_
  intro i e H c' hi ⟨e1, e2, e3, e25, e26, e27, ys, v, T, hyl, hyc, hlive, hH⟩ N hN
  subst hH
  by_cases h : i < s.Queue.list.length
  · have hg : s.Queue.list[i]? = some s.Queue.list[i] := List.getElem?_eq_getElem h
    have hx := z6 _ (List.getElem_mem h)
    have htk : (s.Queue.list.take (i + 1)).map TJob.con = (s.Queue.list.take i).map TJob.con ++ [s.Queue.list[i].con] := by rw [List.take_succ_eq_append_getElem h, List.map_append]; rfl
    generalize s.Queue.list[i] = x at hg hx htk
    have hstep : IntKind.i64.wrap ((i : Int) + 1) = ((i + 1 : Nat) : Int) := by rw [step64 (by unfold mx; omega) h]; rfl
    have m1 : (i + 1) * 88 ≤ 140737488355328 := by omega
    have m2 : i + 1 ≤ mx := by unfold mx; omega
    obtain ⟨G, ⟨l1, l2, l3⟩ | ⟨P, B, t, l1, l2, l3⟩⟩ := hlive
    · subst l1; subst l2
      simp [e1, e2, e3, e25, e26, e27, h, putA]
      refine ⟨x, hg, ?_⟩
      simp [e1, e2, e3, e25, e26, e27, h, putA]
      refine call_new (impl_cpJobO hx _) (Views.refl _ _) fun r1 O1 c4 hc4 ⟨b, hr, hO, hb⟩ _ _ => ?_
      subst hr; subst hO
      refine ⟨_, .refl _, free_agg (TJob.freeO b) _, fun o ho => TJob.freeI b o ho _, ?_⟩
      simp [e1, e2, e3, e25, e26, e27, h, putA, hstep]
      simp at hyl
      subst hyl
      refine ⟨by omega, hN _ _ _ _ h (List.Sublist.refl _) ⟨by simp [upd, e1], by simp [upd, e2], by simp [upd, e3], by simp [upd, e25], by simp [upd, e26], by simp [upd], [b], _, _, rfl, by simpa [hb] using htk.symm, Live.step0 l3 (List.Perm.refl _), rfl⟩⟩
    · subst l1; subst l2
      simp [e1, e2, e3, e25, e26, e27, h, putA]
      refine ⟨x, hg, ?_⟩
      simp [e1, e2, e3, e25, e26, e27, h, putA]
      refine call_new (impl_cpJobO hx _) (Views.refl _ _) fun r1 O1 c4 hc4 ⟨b, hr, hO, hb⟩ _ _ => ?_
      subst hr; subst hO
      refine ⟨_, .refl _, free_agg (TJob.freeO b) _, fun o ho => TJob.freeI b o ho _, ?_⟩
      simp [e1, e2, e3, e25, e26, e27, h, putA, hstep, m1, m2, hyl]
      refine hN _ _ _ _ h (List.Sublist.refl _) ⟨by simp [upd, e1], by simp [upd, e2], by simp [upd, e3], by simp [upd, e25], by simp [upd, e26], by simp [upd], ys ++ [b], _, _, by simp [hyl], by rw [List.map_append, hyc, htk, ← hb]; rfl, Live.step1 l3 (List.Perm.refl _) hyl, rfl⟩
  have hie : i = s.Queue.list.length := by omega
  subst hie
  simp [e1, e2, e3, e25, e26, e27, putA]
  have hliveQ := hlive
  have hycQ := hyc
  rw [List.take_length] at hycQ
  clear hlive hyc
  obtain ⟨v1, rfl⟩ : ∃ v1, v1 = v := ⟨v, rfl⟩
  obtain ⟨T1, rfl⟩ : ∃ T1, T1 = T := ⟨T, rfl⟩
  refine loop_drop s.Workers.list.length (fun i e H c' => e 1 = .ptr 0 c 8 0 0 ∧ e 2 = .ptr 1 (c + 1) 8 0 0 ∧ e 3 = .ptr 2 (c + 1 + 1) 8 0 0 ∧ e 41 = s.Workers.av 9 TWorker.enc ∧ e 42 = .int .i64 s.Workers.list.length ∧ e 43 = .int .i64 i ∧ ∃ (ys : List TWorker) (v : AV) (T : List AObj), ys.length = i ∧ ys.map TWorker.con = (s.Workers.list.take i).map TWorker.con ∧ Live 9 TWorker.encO TWorker.inn ys v T T1 ∧
    H = ⟨false, c, 8, [[s.Files.av 3 TFile.enc, s.Lines.av 4 TLine.enc, s.Sessions.av 4 TSession.enc, s.Queue.av 5 TJob.enc, s.Workers.av 9 TWorker.enc, s.Done.av 11 TAnswer.enc, .int .i64 s.Next, .int .i64 s.Now]]⟩ :: ⟨false, c + 1, 8, [[.nsl, .nsl, .nsl, .nsl, .nsl, .nsl, .int .i64 0, .int .i64 0]]⟩ ::
      ⟨false, c + 1 + 1, 8, [[bF.ref 3, bL.ref 4, bS.ref 4, v1, v, s.Done.av 11 TAnswer.enc, .int .i64 s.Next, .int .i64 s.Now]]⟩ :: T) ⟨by simp [upd, e1], by simp [upd, e2], by simp [upd, e3], by simp [upd], by simp [upd], by simp [upd], [], .nsl, T1, rfl, rfl, Live.zero .., rfl⟩ ?_
  clear e1 e2 e3 e25 e26 e27
  intro i e H c' hi ⟨e1, e2, e3, f0, f1, f2, ys, v, T, hyl, hyc, hlive, hH⟩ N hN
  subst hH
  by_cases h : i < s.Workers.list.length
  · have hg : s.Workers.list[i]? = some s.Workers.list[i] := List.getElem?_eq_getElem h
    have hx := z8 _ (List.getElem_mem h)
    have htk : (s.Workers.list.take (i + 1)).map TWorker.con = (s.Workers.list.take i).map TWorker.con ++ [s.Workers.list[i].con] := by rw [List.take_succ_eq_append_getElem h, List.map_append]; rfl
    generalize s.Workers.list[i] = x at hg hx htk
    have hstep : IntKind.i64.wrap ((i : Int) + 1) = ((i + 1 : Nat) : Int) := by rw [step64 (by unfold mx; omega) h]; rfl
    have m1 : (i + 1) * 144 ≤ 140737488355328 := by omega
    have m2 : i + 1 ≤ mx := by unfold mx; omega
    obtain ⟨G, ⟨l1, l2, l3⟩ | ⟨P, B, t, l1, l2, l3⟩⟩ := hlive
    · subst l1; subst l2
      simp [e1, e2, e3, f0, f1, f2, h, putA, hstep, m1, m2, hyl, TWorker.enc, TJob.encO]
      refine ⟨x, hg, ?_⟩
      simp [e1, e2, e3, f0, f1, f2, h, putA, hstep, m1, m2, hyl, TWorker.enc, TJob.encO]
      refine call_new (impl_cpJobO hx.1 _) (Views.refl _ _) fun r1 O1 c4 hc4 ⟨b1, hr, hO, hb1⟩ _ _ => ?_
      subst hr; subst hO
      refine ⟨_, .refl _, free_agg (TJob.freeO b1) _, fun o ho => TJob.freeI b1 o ho _, ?_⟩
      simp [e1, e2, e3, f0, f1, f2, h, putA, hstep, m1, m2, hyl, TWorker.enc, TJob.encO]
      refine call_new (cloneFO hx.2 _) (Views.refl _ _) fun r1 O1 c5 hc5 ⟨b2, hr, hO, hb2⟩ _ _ => ?_
      subst hr; subst hO
      refine ⟨_, .refl _, free_ref _ _ _, fun o ho => flat_free TFile.flat _ _ o ho _, ?_⟩
      simp [e1, e2, e3, f0, f1, f2, h, putA, hstep, m1, m2, hyl, TWorker.enc, TJob.encO]
      simp at hyl
      subst hyl
      refine ⟨by omega, hN _ _ _ _ h (List.Sublist.refl _) ⟨by simp [upd, e1], by simp [upd, e2], by simp [upd, e3], by simp [upd, f0], by simp [upd, f1], by simp [upd], [⟨x.State, b1, x.Data, b2, x.Served⟩], _, _, rfl, ?_, Live.two0 b1.inn (b2.wood 3 TFile.enc noInn) l3 (by simp [TWorker.inn, TJob.inn]) (by omega), rfl⟩⟩
      rw [htk]; simp [TWorker.con, SL.con, SL.pcon, hb1, hb2]
    · subst l1; subst l2
      simp [e1, e2, e3, f0, f1, f2, h, putA, hstep, m1, m2, hyl, TWorker.enc, TJob.encO]
      refine ⟨x, hg, ?_⟩
      simp [e1, e2, e3, f0, f1, f2, h, putA, hstep, m1, m2, hyl, TWorker.enc, TJob.encO]
      refine call_new (impl_cpJobO hx.1 _) (Views.refl _ _) fun r1 O1 c4 hc4 ⟨b1, hr, hO, hb1⟩ _ _ => ?_
      subst hr; subst hO
      refine ⟨_, .refl _, free_agg (TJob.freeO b1) _, fun o ho => TJob.freeI b1 o ho _, ?_⟩
      simp [e1, e2, e3, f0, f1, f2, h, putA, hstep, m1, m2, hyl, TWorker.enc, TJob.encO]
      refine call_new (cloneFO hx.2 _) (Views.refl _ _) fun r1 O1 c5 hc5 ⟨b2, hr, hO, hb2⟩ _ _ => ?_
      subst hr; subst hO
      refine ⟨_, .refl _, free_ref _ _ _, fun o ho => flat_free TFile.flat _ _ o ho _, ?_⟩
      simp [e1, e2, e3, f0, f1, f2, h, putA, hstep, m1, m2, hyl, TWorker.enc, TJob.encO]
      refine hN _ _ _ _ h (List.Sublist.refl _) ⟨by simp [upd, e1], by simp [upd, e2], by simp [upd, e3], by simp [upd, f0], by simp [upd, f1], by simp [upd], ys ++ [⟨x.State, b1, x.Data, b2, x.Served⟩], _, _, by simp [hyl], ?_, Live.two1 b1.inn (b2.wood 3 TFile.enc noInn) l3 (by simp [TWorker.inn, TJob.inn]) hyl, rfl⟩
      rw [List.map_append, hyc, htk]; simp [TWorker.con, SL.con, SL.pcon, hb1, hb2]
  have hie : i = s.Workers.list.length := by omega
  subst hie
  simp [e1, e2, e3, f0, f1, f2, putA]
  have hliveW := hlive
  have hycW := hyc
  rw [List.take_length] at hycW
  clear hlive hyc
  obtain ⟨v2, rfl⟩ : ∃ v2, v2 = v := ⟨v, rfl⟩
  obtain ⟨T2, rfl⟩ : ∃ T2, T2 = T := ⟨T, rfl⟩
  refine loop_drop s.Done.list.length (fun i e H c' => e 1 = .ptr 0 c 8 0 0 ∧ e 2 = .ptr 1 (c + 1) 8 0 0 ∧ e 3 = .ptr 2 (c + 1 + 1) 8 0 0 ∧ e 64 = s.Done.av 11 TAnswer.enc ∧ e 65 = .int .i64 s.Done.list.length ∧ e 66 = .int .i64 i ∧ ∃ (ys : List TAnswer) (v : AV) (T : List AObj), ys.length = i ∧ ys.map TAnswer.con = (s.Done.list.take i).map TAnswer.con ∧ Live 11 TAnswer.encO TAnswer.inn ys v T T2 ∧
    H = ⟨false, c, 8, [[s.Files.av 3 TFile.enc, s.Lines.av 4 TLine.enc, s.Sessions.av 4 TSession.enc, s.Queue.av 5 TJob.enc, s.Workers.av 9 TWorker.enc, s.Done.av 11 TAnswer.enc, .int .i64 s.Next, .int .i64 s.Now]]⟩ :: ⟨false, c + 1, 8, [[.nsl, .nsl, .nsl, .nsl, .nsl, .nsl, .int .i64 0, .int .i64 0]]⟩ ::
      ⟨false, c + 1 + 1, 8, [[bF.ref 3, bL.ref 4, bS.ref 4, v1, v2, v, .int .i64 s.Next, .int .i64 s.Now]]⟩ :: T) ⟨by simp [upd, e1], by simp [upd, e2], by simp [upd, e3], by simp [upd], by simp [upd], by simp [upd], [], .nsl, T2, rfl, rfl, Live.zero .., rfl⟩ ?_
  clear e1 e2 e3 f0 f1 f2
  intro i e H c' hi ⟨e1, e2, e3, f0, f1, f2, ys, v, T, hyl, hyc, hlive, hH⟩ N hN
  subst hH
  by_cases h : i < s.Done.list.length
  · have hg : s.Done.list[i]? = some s.Done.list[i] := List.getElem?_eq_getElem h
    have hx := z10 _ (List.getElem_mem h)
    have htk : (s.Done.list.take (i + 1)).map TAnswer.con = (s.Done.list.take i).map TAnswer.con ++ [s.Done.list[i].con] := by rw [List.take_succ_eq_append_getElem h, List.map_append]; rfl
    generalize s.Done.list[i] = x at hg hx htk
    have hstep : IntKind.i64.wrap ((i : Int) + 1) = ((i + 1 : Nat) : Int) := by rw [step64 (by unfold mx; omega) h]; rfl
    have m1 : (i + 1) * 192 ≤ 140737488355328 := by omega
    have m2 : i + 1 ≤ mx := by unfold mx; omega
    obtain ⟨G, ⟨l1, l2, l3⟩ | ⟨P, B, t, l1, l2, l3⟩⟩ := hlive
    · subst l1; subst l2
      simp [e1, e2, e3, f0, f1, f2, h, putA, hstep, m1, m2, hyl, TAnswer.enc, TRequest.encO]
      refine ⟨x, hg, ?_⟩
      simp [e1, e2, e3, f0, f1, f2, h, putA, hstep, m1, m2, hyl, TAnswer.enc, TRequest.encO]
      refine call_new (cloneFO hx.2.1 _) (Views.refl _ _) fun r1 O1 c5 hc5 ⟨b1, hr, hO, hb1⟩ _ _ => ?_
      subst hr; subst hO
      refine ⟨_, .refl _, free_ref _ _ _, fun o ho => flat_free TFile.flat _ _ o ho _, ?_⟩
      simp [e1, e2, e3, f0, f1, f2, h, putA, hstep, m1, m2, hyl, TAnswer.enc, TRequest.encO]
      refine call_new (impl_cpReqO hx.1 _) (Views.refl _ _) fun r1 O1 c4 hc4 ⟨b2, hr, hO, hb2⟩ _ _ => ?_
      subst hr; subst hO
      refine ⟨_, .refl _, free_agg (TRequest.freeO b2) _, fun o ho => TRequest.freeI b2 o ho _, ?_⟩
      simp [e1, e2, e3, f0, f1, f2, h, putA, hstep, m1, m2, hyl, TAnswer.enc, TRequest.encO]
      refine call_new (cloneHO hx.2.2 _) (Views.refl _ _) fun r1 O1 c6 hc6 ⟨b3, hr, hO, hb3⟩ _ _ => ?_
      subst hr; subst hO
      refine ⟨_, .refl _, free_ref _ _ _, fun o ho => flat_free THeader.flat _ _ o ho _, ?_⟩
      simp [e1, e2, e3, f0, f1, f2, h, putA, hstep, m1, m2, hyl, TAnswer.enc, TRequest.encO]
      simp at hyl
      subst hyl
      refine ⟨by omega, hN _ _ _ _ h (List.Sublist.refl _) ⟨by simp [upd, e1], by simp [upd, e2], by simp [upd, e3], by simp [upd, f0], by simp [upd, f1], by simp [upd], [⟨x.Id, x.Session, b1, b2, x.Before, ⟨x.Response.Code, b3, x.Response.Body⟩, x.After⟩], _, _, rfl, ?_, Live.three0 (b1.wood 3 TFile.enc noInn) b2.inn (b3.wood 2 THeader.enc noInn) l3 (by simp [TAnswer.inn, TRequest.inn]) (by omega), rfl⟩⟩
      rw [htk]; simp [TAnswer.con, TResponse.con, SL.con, SL.pcon, hb1, hb2, hb3]
    · subst l1; subst l2
      simp [e1, e2, e3, f0, f1, f2, h, putA, hstep, m1, m2, hyl, TAnswer.enc, TRequest.encO]
      refine ⟨x, hg, ?_⟩
      simp [e1, e2, e3, f0, f1, f2, h, putA, hstep, m1, m2, hyl, TAnswer.enc, TRequest.encO]
      refine call_new (cloneFO hx.2.1 _) (Views.refl _ _) fun r1 O1 c5 hc5 ⟨b1, hr, hO, hb1⟩ _ _ => ?_
      subst hr; subst hO
      refine ⟨_, .refl _, free_ref _ _ _, fun o ho => flat_free TFile.flat _ _ o ho _, ?_⟩
      simp [e1, e2, e3, f0, f1, f2, h, putA, hstep, m1, m2, hyl, TAnswer.enc, TRequest.encO]
      refine call_new (impl_cpReqO hx.1 _) (Views.refl _ _) fun r1 O1 c4 hc4 ⟨b2, hr, hO, hb2⟩ _ _ => ?_
      subst hr; subst hO
      refine ⟨_, .refl _, free_agg (TRequest.freeO b2) _, fun o ho => TRequest.freeI b2 o ho _, ?_⟩
      simp [e1, e2, e3, f0, f1, f2, h, putA, hstep, m1, m2, hyl, TAnswer.enc, TRequest.encO]
      refine call_new (cloneHO hx.2.2 _) (Views.refl _ _) fun r1 O1 c6 hc6 ⟨b3, hr, hO, hb3⟩ _ _ => ?_
      subst hr; subst hO
      refine ⟨_, .refl _, free_ref _ _ _, fun o ho => flat_free THeader.flat _ _ o ho _, ?_⟩
      simp [e1, e2, e3, f0, f1, f2, h, putA, hstep, m1, m2, hyl, TAnswer.enc, TRequest.encO]
      refine hN _ _ _ _ h (List.Sublist.refl _) ⟨by simp [upd, e1], by simp [upd, e2], by simp [upd, e3], by simp [upd, f0], by simp [upd, f1], by simp [upd], ys ++ [⟨x.Id, x.Session, b1, b2, x.Before, ⟨x.Response.Code, b3, x.Response.Body⟩, x.After⟩], _, _, by simp [hyl], ?_, Live.three1 (b1.wood 3 TFile.enc noInn) b2.inn (b3.wood 2 THeader.enc noInn) l3 (by simp [TAnswer.inn, TRequest.inn]) hyl, rfl⟩
      rw [List.map_append, hyc, htk]; simp [TAnswer.con, TResponse.con, SL.con, SL.pcon, hb1, hb2, hb3]
  have hie : i = s.Done.list.length := by omega
  subst hie
  simp [e1, e2, e3, f0, f1, f2, putA]
  rw [List.take_length] at hyc
  obtain ⟨s3, G3, p1, p2, p3⟩ := hlive.fin
  obtain ⟨s2, G2, p4, p5, p6⟩ := hliveW.fin
  obtain ⟨s1, G1, p7, p8, p9⟩ := hliveQ.fin
  refine fin_all ⟨⟨bF, bL, bS, s1, s2, s3, s.Next, s.Now⟩, v1, v2, v, rfl, p8, p5, p2, [_, _, _], T, rfl, ⟨G1 ++ (G2 ++ G3), perm_cnt fun p => ?_⟩, ?_⟩
  · have h1 := p3.countP_eq p
    have h2 := p6.countP_eq p
    have h3 := p9.countP_eq p
    subst hW
    simp only [TServer.inn, List.countP_append] at h1 h2 h3 ⊢
    omega
  · have e1 : s1.con TJob.con = s.Queue.con TJob.con := by unfold SL.con; rw [p7, hycQ]
    have e2 : s2.con TWorker.con = s.Workers.con TWorker.con := by unfold SL.con; rw [p4, hycW]
    have e3 : s3.con TAnswer.con = s.Done.con TAnswer.con := by unfold SL.con; rw [p1, hyc]
    have e4 : bF.con TFile.con = s.Files.con TFile.con := by unfold SL.con; rw [qF]
    have e5 : bL.con TLine.con = s.Lines.con TLine.con := by unfold SL.con; rw [qL]
    have e6 : bS.con TSession.con = s.Sessions.con TSession.con := by unfold SL.con; rw [qS]
    simp only [TServer.con, e1, e2, e3, e4, e5, e6]

theorem view_agg {S : List AObj} {l l' : List AV} (h : Views S l l') (hc : ∀ a, a ∈ l' → a.cell = true) : View S (.agg l) (.agg l') := .agg h.spec.1 (fun j a ha => hc a (List.mem_of_getElem? ha)) h.spec.2
theorem cell_rf {α : Type} (w : Nat) (s : SL α) : (s.ref w).cell = true := by cases s <;> rfl
theorem TServer.cellsO (s : TServer) : ∀ a, a ∈ s.encO → a.cell = true := fun a ha => by
  simp [TServer.encO] at ha
  rcases ha with rfl | rfl | rfl | rfl | rfl | rfl | rfl | rfl <;> first | rfl | exact cell_rf _ _
theorem TRequest.cellsO (s : TRequest) : ∀ a, a ∈ s.encO → a.cell = true := fun a ha => by
  simp [TRequest.encO] at ha
  rcases ha with rfl | rfl | rfl <;> first | rfl | exact cell_rf _ _
theorem TWorker.cellsO (s : TWorker) : ∀ a, a ∈ s.encO → a.cell = true := fun a ha => by
  simp [TWorker.encO] at ha
  rcases ha with rfl | rfl | rfl | rfl | rfl | rfl | rfl | rfl | rfl <;> first | rfl | exact cell_rf _ _
theorem TAnswer.cellsO (s : TAnswer) : ∀ a, a ∈ s.encO → a.cell = true := fun a ha => by
  simp [TAnswer.encO] at ha
  rcases ha with rfl | rfl | rfl | rfl | rfl | rfl | rfl | rfl | rfl | rfl | rfl <;> first | rfl | exact cell_rf _ _
/-- What a copy's walk ends with: the parts named by places, the objects among others. -/
def CopK (s : TServer) (r : AV) (O : List AObj) : Prop := ∃ (b : TServer) (l : List AV) (U T G : List AObj), r = .agg l ∧ Views [] l b.encO ∧ O = U ++ T ∧ T.Perm (b.inn ++ G) ∧ b.con = s.con
theorem con_copK {f : Nat} {args : List AV} {s : TServer} {c : Nat} (h : Con Tryz.prog f args [] c fun r O _ => CopK s r O) : Con Tryz.prog f args [] c fun r O _ => ∃ b : TServer, r = .agg b.encO ∧ O = b.inn ∧ b.con = s.con :=
  Con.fin (con_perm (Q' := fun r O _ => ∃ (b : TServer) (l : List AV), r = .agg l ∧ Views [] l b.encO ∧ O = b.inn ∧ b.con = s.con) h fun r O c' ⟨b, l, U, T, G, h1, h2, h3, h4, h5⟩ => by
    obtain ⟨Ts, hTp, hTs⟩ := List.exists_perm_sublist (List.sublist_append_left b.inn G) h4.symm
    exact ⟨Ts, b.inn, by rw [h3]; exact hTs.trans (List.sublist_append_right _ _), hTp.symm, b, l, h1, h2, rfl, h5⟩) fun r O c' _ ⟨b, l, h1, h2, h3, h4⟩ _ _ => by
      subst h1; subst h3
      exact fin_sub (List.Sublist.refl _) (view_agg h2 b.cellsO) ⟨b, rfl, rfl, h4⟩
theorem impl_cpSrvO {s : TServer} (hs : SmSrv s) (c : Nat) : Con Tryz.prog 29 [.agg s.enc] [] c fun r O _ => ∃ b : TServer, r = .agg b.encO ∧ O = b.inn ∧ b.con = s.con :=
  con_copK ((impl_cpSrvK hs c).mono fun r O c' _ ⟨b, v1, v2, v3, U, T, G, h1, h2, h3, h4, h5, h6, h7⟩ => ⟨b, _, U, T, G, h1, .cons (.refl _) (.cons (.refl _) (.cons (.refl _) (.cons h2 (.cons h3 (.cons h4 (.cons (.refl _) (.cons (.refl _) .nil))))))), h5, h6, h7⟩)
end A
end Go.Proofs.YtfcimcoanlgldaaGreat

/-
  The reference's copies of a server and its parts, kept as0 objects. No condition.
-/

namespace Go.Proofs.YtfcimcoanlgldaaGreat
namespace A
set_option linter.unusedVariables false
set_option linter.unusedSimpArgs false
set_option maxRecDepth 100000

theorem spec_cpReqO {x : TRequest} (h : SmR x) (c : Nat) : Con Tryz.prog 101 [.agg x.enc] [] c fun r O _ => ∃ b : TRequest, r = .agg b.encO ∧ O = b.inn ∧ b.con = x.con := by
  obtain ⟨h1, h2⟩ := h
  have m1 : x.Query.list.length * 32 ≤ 140737488355328 := by omega
  have m2 : x.Query.list.length ≤ mx := by unfold mx; omega
  have m3 : x.Cookies.list.length * 32 ≤ 140737488355328 := by omega
  have m4 : x.Cookies.list.length ≤ mx := by unfold mx; omega
  refine con_of c101 (by simp [F101]) ?_
  unfold F101
  simp [putA, m1, m2, m3, m4, TRequest.enc]
  refine fin_sub (Hk := (SL.mk (c + 1 + 1 + 1) x.Query.list).wood 2 TPair.enc noInn ++ (SL.mk (c + 1 + 1 + 1 + 1 + 1) x.Cookies.list).wood 2 TPair.enc noInn) ?_ (view_agg (.cons (.refl _) (.cons .name (.cons .name .nil))) (TRequest.cellsO ⟨x.Path, .mk (c + 1 + 1 + 1) x.Query.list, .mk (c + 1 + 1 + 1 + 1 + 1) x.Cookies.list⟩)) ⟨⟨x.Path, .mk (c + 1 + 1 + 1) x.Query.list, .mk (c + 1 + 1 + 1 + 1 + 1) x.Cookies.list⟩, rfl, rfl, by simp [TRequest.con, SL.con, SL.pcon]⟩
  rw [flat_wood, flat_wood]
  exact ((List.Sublist.refl _).cons _).cons _
theorem spec_cpJobO {x : TJob} (h : SmR x.Request) (c : Nat) : Con Tryz.prog 61 [.agg x.enc] [] c fun r O _ => ∃ b : TJob, r = .agg b.encO ∧ O = b.inn ∧ b.con = x.con := by
  refine con_of c61 (by simp [F61]) ?_
  unfold F61
  simp [putA]
  refine call_new (spec_cpReqO h _) (Views.refl _ _) fun r1 O1 c1 hc1 ⟨b1, hr, hO, q1⟩ _ _ => ?_
  subst hr; subst hO
  refine ⟨_, .refl _, free_agg (TRequest.freeO b1) _, fun o ho => TRequest.freeI b1 o ho _, ?_⟩
  simp [putA]
  refine fin_sub (Hk := b1.inn) ?_ (.refl _) ⟨⟨x.Id, b1, x.Session⟩, rfl, rfl, by simp [TJob.con, SL.con, SL.pcon, q1]⟩
  exact ((List.Sublist.refl _).cons _).cons _
theorem spec_cpWrkO {x : TWorker} (h : SmR x.Job.Request ∧ x.Files.list.length ≤ 1048576) (c : Nat) : Con Tryz.prog 62 [.agg x.enc] [] c fun r O _ => ∃ b : TWorker, r = .agg b.encO ∧ O = b.inn ∧ b.con = x.con := by
  obtain ⟨h1, h2⟩ := h
  have m1 : x.Files.list.length * 40 ≤ 140737488355328 := by omega
  have m2 : x.Files.list.length ≤ mx := by unfold mx; omega
  refine con_of c62 (by simp [F62]) ?_
  unfold F62
  simp [putA, m1, m2]
  refine call_new (spec_cpJobO h1 _) (Views.refl _ _) fun r1 O1 c1 hc1 ⟨b1, hr, hO, q1⟩ _ _ => ?_
  subst hr; subst hO
  refine ⟨_, .refl _, free_agg (TJob.freeO b1) _, fun o ho => TJob.freeI b1 o ho _, ?_⟩
  simp [putA, m1, m2, TWorker.enc, TJob.encO]
  refine fin_sub (Hk := b1.inn ++ (SL.mk (c1 + 1) x.Files.list).wood 3 TFile.enc noInn) ?_ (view_agg (.cons (.refl _) (.cons (.refl _) (.cons (.refl _) (.cons (.refl _) (.cons (.refl _) (.cons (.refl _) (.cons (.refl _) (.cons .name (.cons (.refl _) .nil))))))))) (TWorker.cellsO ⟨x.State, b1, x.Data, .mk (c1 + 1) x.Files.list, x.Served⟩)) ⟨⟨x.State, b1, x.Data, .mk (c1 + 1) x.Files.list, x.Served⟩, rfl, by simp [TWorker.inn, TJob.inn], by simp [TWorker.con, SL.con, SL.pcon, q1]⟩
  rw [flat_wood]
  exact ((List.Sublist.refl _).cons _).cons _
theorem spec_cpAnsO {x : TAnswer} (h : SmR x.Request ∧ x.Files.list.length ≤ 1048576 ∧ x.Response.Headers.list.length ≤ 1048576) (c : Nat) : Con Tryz.prog 63 [.agg x.enc] [] c fun r O _ => ∃ b : TAnswer, r = .agg b.encO ∧ O = b.inn ∧ b.con = x.con := by
  obtain ⟨h1, h2, h3⟩ := h
  have m1 : x.Files.list.length * 40 ≤ 140737488355328 := by omega
  have m2 : x.Files.list.length ≤ mx := by unfold mx; omega
  have m3 : x.Response.Headers.list.length * 32 ≤ 140737488355328 := by omega
  have m4 : x.Response.Headers.list.length ≤ mx := by unfold mx; omega
  refine con_of c63 (by simp [F63]) ?_
  unfold F63
  simp [putA, m1, m2, m3, m4, TAnswer.enc]
  refine call_new (spec_cpReqO h1 _) (Views.refl _ _) fun r1 O1 c1 hc1 ⟨b1, hr, hO, q1⟩ _ _ => ?_
  subst hr; subst hO
  refine ⟨_, .refl _, free_agg (TRequest.freeO b1) _, fun o ho => TRequest.freeI b1 o ho _, ?_⟩
  simp [putA, m1, m2, m3, m4, TAnswer.enc, TRequest.encO]
  refine fin_sub (Hk := (SL.mk (c + 1 + 1 + 1) x.Files.list).wood 3 TFile.enc noInn ++ (b1.inn ++ (SL.mk (c1 + 1) x.Response.Headers.list).wood 2 THeader.enc noInn)) ?_ (view_agg (.cons (.refl _) (.cons (.refl _) (.cons .name (.cons (.refl _) (.cons (.refl _) (.cons (.refl _) (.cons (.refl _) (.cons (.refl _) (.cons .name (.cons (.refl _) (.cons (.refl _) .nil))))))))))) (TAnswer.cellsO ⟨x.Id, x.Session, .mk (c + 1 + 1 + 1) x.Files.list, b1, x.Before, ⟨x.Response.Code, .mk (c1 + 1) x.Response.Headers.list, x.Response.Body⟩, x.After⟩)) ⟨⟨x.Id, x.Session, .mk (c + 1 + 1 + 1) x.Files.list, b1, x.Before, ⟨x.Response.Code, .mk (c1 + 1) x.Response.Headers.list, x.Response.Body⟩, x.After⟩, rfl, by simp [TAnswer.inn, TRequest.inn], by simp [TAnswer.con, TResponse.con, SL.con, SL.pcon, q1]⟩
  rw [flat_wood, flat_wood]
  exact ((List.Sublist.refl _).cons _).cons _
@[simp] theorem getW_n1 {α : Type} (P B I M : List α) (X W : α) (K : α → Prop) : getW (P ++ X :: (B ++ (I ++ W :: M))) (P.length + (B.length + I.length + 1)) K = K W := by
  have e : P ++ X :: (B ++ (I ++ W :: M)) = (P ++ X :: (B ++ I)) ++ W :: M := by simp
  have e2 : P.length + (B.length + I.length + 1) = (P ++ X :: (B ++ I)).length := by simp
  rw [e, e2, getW_len]
@[simp] theorem getW_n0 {α : Type} (T I M : List α) (W : α) (K : α → Prop) : getW (T ++ (I ++ W :: M)) (T.length + I.length) K = K W := by
  have e : T ++ (I ++ W :: M) = (T ++ I) ++ W :: M := by simp
  have e2 : T.length + I.length = (T ++ I).length := by simp
  rw [e, e2, getW_len]
theorem Live.none0 {α : Type} {w : Nat} {encO : α → List AV} {inn : α → List AObj} {T X G : List AObj} {g2 : AObj} {b : α} {t n : Nat} (I : List AObj) (h : T.Perm (X ++ G)) (hI : I.Perm (inn b)) (hn : n = T.length + I.length + 4) :
    Live w encO inn [b] (.ref n t w 1) (T ++ (I ++ [g2, ⟨false, t, w, [encO b]⟩])) X := by
  refine ⟨g2 :: G, .inr ⟨T ++ (I ++ [g2]), [], t, by subst hn; simp; omega, by simp, perm_cnt fun p => ?_⟩⟩
  have h1 := h.countP_eq p
  have h2 := hI.countP_eq p
  simp only [List.countP_append, List.countP_cons, List.countP_nil, List.flatMap_cons, List.flatMap_nil, List.append_nil, List.flatMap_append] at h1 h2 ⊢
  omega
theorem Live.none1 {α : Type} {w : Nat} {encO : α → List AV} {inn : α → List AObj} {P B X G : List AObj} {g2 : AObj} {ys : List α} {b : α} {t n : Nat} (I : List AObj) (h : (P ++ B).Perm (ys.flatMap inn ++ (X ++ G))) (hI : I.Perm (inn b)) (hn : ys.length = n) :
    Live w encO inn (ys ++ [b]) (.ref (P.length + 3) t w (n + 1)) (P ++ ⟨false, t, w, ys.map encO ++ [encO b]⟩ :: (B ++ (I ++ [g2]))) X := by
  refine ⟨g2 :: G, .inr ⟨P, B ++ (I ++ [g2]), t, by simp [hn], by simp, perm_cnt fun p => ?_⟩⟩
  have h1 := h.countP_eq p
  have h2 := hI.countP_eq p
  simp only [List.countP_append, List.countP_cons, List.countP_nil, List.flatMap_cons, List.flatMap_nil, List.append_nil, List.flatMap_append] at h1 h2 ⊢
  omega
theorem spec_cpSrvK {s : TServer} (hs : SmSrv s) (c : Nat) : Con Tryz.prog 20 [.agg s.enc] [] c fun r O _ => CopK s r O := by
  obtain ⟨z1, z2, z3, z4, z5, z6, z7, z8, z9, z10⟩ := hs
  have m1 : s.Files.list.length * 40 ≤ 140737488355328 := by omega
  have m2 : s.Files.list.length ≤ mx := by unfold mx; omega
  have m3 : s.Sessions.list.length * 48 ≤ 140737488355328 := by omega
  have m4 : s.Sessions.list.length ≤ mx := by unfold mx; omega
  refine con_of c20 (by simp [F20]) ?_
  unfold F20
  simp [putA, m1, m2, m3, m4]
  refine call_new (spec_copyO z2 z3 _) (Views.refl _ _) fun r1 O1 c2 hc2 ⟨bL, hr, hO, qL⟩ _ _ => ?_
  subst hr; subst hO
  refine ⟨_, .refl _, free_ref _ _ _, fun o ho => free_wood TLine.freeO TLine.freeI _ o ho _, ?_⟩
  simp [putA, m1, m2, m3, m4, TServer.enc]
  have hF : ∃ vF : AV, vF = .ref 3 (c + 1 + 1 + 1 + 1) 3 s.Files.list.length := ⟨_, rfl⟩
  have hS : ∃ vS : AV, vS = .ref ((bL.wood 4 TLine.encO TLine.inn).length + 1 + 1 + 1 + 1) (c2 + 1) 4 s.Sessions.list.length := ⟨_, rfl⟩
  obtain ⟨vF, hF⟩ := hF
  obtain ⟨vS, hS⟩ := hS
  rw [← hF, ← hS]
  obtain ⟨W, hW⟩ : ∃ W : List AObj, W = (⟨false, c + 1 + 1 + 1 + 1, 3, s.Files.list.map TFile.enc⟩ : AObj) :: (bL.wood 4 TLine.encO TLine.inn ++ [⟨false, c2 + 1, 4, s.Sessions.list.map TSession.enc⟩]) := ⟨_, rfl⟩
  rw [← hW]
  refine loop_drop s.Queue.list.length (fun i e H c' => e 1 = .ptr 0 c 8 0 0 ∧ e 2 = .ptr 1 (c + 1) 8 0 0 ∧ e 3 = .ptr 2 (c + 1 + 1) 8 0 0 ∧ e 4 = .int .i64 i ∧ ∃ (ys : List TJob) (v : AV) (T : List AObj), ys.length = i ∧ ys.map TJob.con = (s.Queue.list.take i).map TJob.con ∧ Live 5 TJob.encO TJob.inn ys v T W ∧
    H = ⟨false, c, 8, [[s.Files.av 3 TFile.enc, s.Lines.av 4 TLine.enc, s.Sessions.av 4 TSession.enc, s.Queue.av 5 TJob.enc, s.Workers.av 9 TWorker.enc, s.Done.av 11 TAnswer.enc, .int .i64 s.Next, .int .i64 s.Now]]⟩ :: ⟨false, c + 1, 8, [[.nsl, .nsl, .nsl, .nsl, .nsl, .nsl, .int .i64 0, .int .i64 0]]⟩ ::
      ⟨false, c + 1 + 1, 8, [[vF, bL.ref 4, vS, v, s.Workers.av 9 TWorker.enc, s.Done.av 11 TAnswer.enc, .int .i64 s.Next, .int .i64 s.Now]]⟩ :: T) ⟨rfl, rfl, rfl, rfl, [], .nsl, W, rfl, rfl, Live.zero .., rfl⟩ ?_
  intro i e H c' hi ⟨e1, e2, e3, f0, ys, v, T, hyl, hyc, hlive, hH⟩ N hN
  subst hH
  by_cases h : i < s.Queue.list.length
  · have hg : s.Queue.list[i]? = some s.Queue.list[i] := List.getElem?_eq_getElem h
    have hx := z6 _ (List.getElem_mem h)
    have htk : (s.Queue.list.take (i + 1)).map TJob.con = (s.Queue.list.take i).map TJob.con ++ [s.Queue.list[i].con] := by rw [List.take_succ_eq_append_getElem h, List.map_append]; rfl
    generalize s.Queue.list[i] = x at hg hx htk
    have hstep : IntKind.i64.wrap ((i : Int) + 1) = ((i + 1 : Nat) : Int) := by rw [step64 (by unfold mx; omega) h]; rfl
    have m1 : (i + 1) * 88 ≤ 140737488355328 := by omega
    have m2 : i + 1 ≤ mx := by unfold mx; omega
    obtain ⟨G, ⟨l1, l2, l3⟩ | ⟨P, B, t, l1, l2, l3⟩⟩ := hlive
    · subst l1; subst l2
      simp [e1, e2, e3, f0, h, putA, hstep, m1, m2, hyl]
      refine ⟨x, hg, ?_⟩
      simp [e1, e2, e3, f0, h, putA, hstep, m1, m2, hyl]
      refine call_new (spec_cpJobO hx _) (Views.refl _ _) fun r1 O1 c4 hc4 ⟨b, hr, hO, hb⟩ _ _ => ?_
      subst hr; subst hO
      refine ⟨_, .refl _, free_agg (TJob.freeO b) _, fun o ho => TJob.freeI b o ho _, ?_⟩
      simp [e1, e2, e3, f0, h, putA, hstep, m1, m2, hyl]
      simp at hyl
      subst hyl
      refine ⟨by omega, hN _ _ _ _ h (List.Sublist.refl _) ⟨by simp [upd, e1], by simp [upd, e2], by simp [upd, e3], by simp [upd], [b], _, _, rfl, by simpa [hb] using htk.symm, Live.none0 b.inn l3 (List.Perm.refl _) (by omega), rfl⟩⟩
    · subst l1; subst l2
      simp [e1, e2, e3, f0, h, putA, hstep, m1, m2, hyl]
      refine ⟨x, hg, ?_⟩
      simp [e1, e2, e3, f0, h, putA, hstep, m1, m2, hyl]
      refine call_new (spec_cpJobO hx _) (Views.refl _ _) fun r1 O1 c4 hc4 ⟨b, hr, hO, hb⟩ _ _ => ?_
      subst hr; subst hO
      refine ⟨_, .refl _, free_agg (TJob.freeO b) _, fun o ho => TJob.freeI b o ho _, ?_⟩
      simp [e1, e2, e3, f0, h, putA, hstep, m1, m2, hyl]
      refine hN _ _ _ _ h (List.Sublist.refl _) ⟨by simp [upd, e1], by simp [upd, e2], by simp [upd, e3], by simp [upd], ys ++ [b], _, _, by simp [hyl], by rw [List.map_append, hyc, htk, ← hb]; rfl, Live.none1 b.inn l3 (List.Perm.refl _) hyl, rfl⟩
  have hie : i = s.Queue.list.length := by omega
  subst hie
  simp [e1, e2, e3, f0, putA]
  rw [List.take_length] at hyc
  have hliveQ := hlive
  have hycQ := hyc
  clear hlive hyc
  obtain ⟨v1, rfl⟩ : ∃ v1, v1 = v := ⟨v, rfl⟩
  obtain ⟨T1, rfl⟩ : ∃ T1, T1 = T := ⟨T, rfl⟩
  refine loop_drop s.Workers.list.length (fun i e H c' => e 1 = .ptr 0 c 8 0 0 ∧ e 2 = .ptr 1 (c + 1) 8 0 0 ∧ e 3 = .ptr 2 (c + 1 + 1) 8 0 0 ∧ e 5 = .int .i64 i ∧ ∃ (ys : List TWorker) (v : AV) (T : List AObj), ys.length = i ∧ ys.map TWorker.con = (s.Workers.list.take i).map TWorker.con ∧ Live 9 TWorker.encO TWorker.inn ys v T T1 ∧
    H = ⟨false, c, 8, [[s.Files.av 3 TFile.enc, s.Lines.av 4 TLine.enc, s.Sessions.av 4 TSession.enc, s.Queue.av 5 TJob.enc, s.Workers.av 9 TWorker.enc, s.Done.av 11 TAnswer.enc, .int .i64 s.Next, .int .i64 s.Now]]⟩ :: ⟨false, c + 1, 8, [[.nsl, .nsl, .nsl, .nsl, .nsl, .nsl, .int .i64 0, .int .i64 0]]⟩ ::
      ⟨false, c + 1 + 1, 8, [[vF, bL.ref 4, vS, v1, v, s.Done.av 11 TAnswer.enc, .int .i64 s.Next, .int .i64 s.Now]]⟩ :: T) ⟨by simp [upd, e1], by simp [upd, e2], by simp [upd, e3], by simp [upd], [], .nsl, T1, rfl, rfl, Live.zero .., rfl⟩ ?_
  clear e1 e2 e3 f0
  intro i e H c' hi ⟨e1, e2, e3, f0, ys, v, T, hyl, hyc, hlive, hH⟩ N hN
  subst hH
  by_cases h : i < s.Workers.list.length
  · have hg : s.Workers.list[i]? = some s.Workers.list[i] := List.getElem?_eq_getElem h
    have hx := z8 _ (List.getElem_mem h)
    have htk : (s.Workers.list.take (i + 1)).map TWorker.con = (s.Workers.list.take i).map TWorker.con ++ [s.Workers.list[i].con] := by rw [List.take_succ_eq_append_getElem h, List.map_append]; rfl
    generalize s.Workers.list[i] = x at hg hx htk
    have hstep : IntKind.i64.wrap ((i : Int) + 1) = ((i + 1 : Nat) : Int) := by rw [step64 (by unfold mx; omega) h]; rfl
    have m1 : (i + 1) * 144 ≤ 140737488355328 := by omega
    have m2 : i + 1 ≤ mx := by unfold mx; omega
    obtain ⟨G, ⟨l1, l2, l3⟩ | ⟨P, B, t, l1, l2, l3⟩⟩ := hlive
    · subst l1; subst l2
      simp [e1, e2, e3, f0, h, putA, hstep, m1, m2, hyl]
      refine ⟨x, hg, ?_⟩
      simp [e1, e2, e3, f0, h, putA, hstep, m1, m2, hyl]
      refine call_new (spec_cpWrkO hx _) (Views.refl _ _) fun r1 O1 c4 hc4 ⟨b, hr, hO, hb⟩ _ _ => ?_
      subst hr; subst hO
      refine ⟨_, .refl _, free_agg (TWorker.freeO b) _, fun o ho => TWorker.freeI b o ho _, ?_⟩
      simp [e1, e2, e3, f0, h, putA, hstep, m1, m2, hyl]
      simp at hyl
      subst hyl
      refine ⟨by omega, hN _ _ _ _ h (List.Sublist.refl _) ⟨by simp [upd, e1], by simp [upd, e2], by simp [upd, e3], by simp [upd], [b], _, _, rfl, by simpa [hb] using htk.symm, Live.none0 b.inn l3 (List.Perm.refl _) (by omega), rfl⟩⟩
    · subst l1; subst l2
      simp [e1, e2, e3, f0, h, putA, hstep, m1, m2, hyl]
      refine ⟨x, hg, ?_⟩
      simp [e1, e2, e3, f0, h, putA, hstep, m1, m2, hyl]
      refine call_new (spec_cpWrkO hx _) (Views.refl _ _) fun r1 O1 c4 hc4 ⟨b, hr, hO, hb⟩ _ _ => ?_
      subst hr; subst hO
      refine ⟨_, .refl _, free_agg (TWorker.freeO b) _, fun o ho => TWorker.freeI b o ho _, ?_⟩
      simp [e1, e2, e3, f0, h, putA, hstep, m1, m2, hyl]
      refine hN _ _ _ _ h (List.Sublist.refl _) ⟨by simp [upd, e1], by simp [upd, e2], by simp [upd, e3], by simp [upd], ys ++ [b], _, _, by simp [hyl], by rw [List.map_append, hyc, htk, ← hb]; rfl, Live.none1 b.inn l3 (List.Perm.refl _) hyl, rfl⟩
  have hie : i = s.Workers.list.length := by omega
  subst hie
  simp [e1, e2, e3, f0, putA]
  rw [List.take_length] at hyc
  have hliveW := hlive
  have hycW := hyc
  clear hlive hyc
  obtain ⟨v2, rfl⟩ : ∃ v2, v2 = v := ⟨v, rfl⟩
  obtain ⟨T2, rfl⟩ : ∃ T2, T2 = T := ⟨T, rfl⟩
  refine loop_drop s.Done.list.length (fun i e H c' => e 1 = .ptr 0 c 8 0 0 ∧ e 2 = .ptr 1 (c + 1) 8 0 0 ∧ e 3 = .ptr 2 (c + 1 + 1) 8 0 0 ∧ e 6 = .int .i64 i ∧ ∃ (ys : List TAnswer) (v : AV) (T : List AObj), ys.length = i ∧ ys.map TAnswer.con = (s.Done.list.take i).map TAnswer.con ∧ Live 11 TAnswer.encO TAnswer.inn ys v T T2 ∧
    H = ⟨false, c, 8, [[s.Files.av 3 TFile.enc, s.Lines.av 4 TLine.enc, s.Sessions.av 4 TSession.enc, s.Queue.av 5 TJob.enc, s.Workers.av 9 TWorker.enc, s.Done.av 11 TAnswer.enc, .int .i64 s.Next, .int .i64 s.Now]]⟩ :: ⟨false, c + 1, 8, [[.nsl, .nsl, .nsl, .nsl, .nsl, .nsl, .int .i64 0, .int .i64 0]]⟩ ::
      ⟨false, c + 1 + 1, 8, [[vF, bL.ref 4, vS, v1, v2, v, .int .i64 s.Next, .int .i64 s.Now]]⟩ :: T) ⟨by simp [upd, e1], by simp [upd, e2], by simp [upd, e3], by simp [upd], [], .nsl, T2, rfl, rfl, Live.zero .., rfl⟩ ?_
  clear e1 e2 e3 f0
  intro i e H c' hi ⟨e1, e2, e3, f0, ys, v, T, hyl, hyc, hlive, hH⟩ N hN
  subst hH
  by_cases h : i < s.Done.list.length
  · have hg : s.Done.list[i]? = some s.Done.list[i] := List.getElem?_eq_getElem h
    have hx := z10 _ (List.getElem_mem h)
    have htk : (s.Done.list.take (i + 1)).map TAnswer.con = (s.Done.list.take i).map TAnswer.con ++ [s.Done.list[i].con] := by rw [List.take_succ_eq_append_getElem h, List.map_append]; rfl
    generalize s.Done.list[i] = x at hg hx htk
    have hstep : IntKind.i64.wrap ((i : Int) + 1) = ((i + 1 : Nat) : Int) := by rw [step64 (by unfold mx; omega) h]; rfl
    have m1 : (i + 1) * 192 ≤ 140737488355328 := by omega
    have m2 : i + 1 ≤ mx := by unfold mx; omega
    obtain ⟨G, ⟨l1, l2, l3⟩ | ⟨P, B, t, l1, l2, l3⟩⟩ := hlive
    · subst l1; subst l2
      simp [e1, e2, e3, f0, h, putA, hstep, m1, m2, hyl]
      refine ⟨x, hg, ?_⟩
      simp [e1, e2, e3, f0, h, putA, hstep, m1, m2, hyl]
      refine call_new (spec_cpAnsO hx _) (Views.refl _ _) fun r1 O1 c4 hc4 ⟨b, hr, hO, hb⟩ _ _ => ?_
      subst hr; subst hO
      refine ⟨_, .refl _, free_agg (TAnswer.freeO b) _, fun o ho => TAnswer.freeI b o ho _, ?_⟩
      simp [e1, e2, e3, f0, h, putA, hstep, m1, m2, hyl]
      simp at hyl
      subst hyl
      refine ⟨by omega, hN _ _ _ _ h (List.Sublist.refl _) ⟨by simp [upd, e1], by simp [upd, e2], by simp [upd, e3], by simp [upd], [b], _, _, rfl, by simpa [hb] using htk.symm, Live.none0 b.inn l3 (List.Perm.refl _) (by omega), rfl⟩⟩
    · subst l1; subst l2
      simp [e1, e2, e3, f0, h, putA, hstep, m1, m2, hyl]
      refine ⟨x, hg, ?_⟩
      simp [e1, e2, e3, f0, h, putA, hstep, m1, m2, hyl]
      refine call_new (spec_cpAnsO hx _) (Views.refl _ _) fun r1 O1 c4 hc4 ⟨b, hr, hO, hb⟩ _ _ => ?_
      subst hr; subst hO
      refine ⟨_, .refl _, free_agg (TAnswer.freeO b) _, fun o ho => TAnswer.freeI b o ho _, ?_⟩
      simp [e1, e2, e3, f0, h, putA, hstep, m1, m2, hyl]
      refine hN _ _ _ _ h (List.Sublist.refl _) ⟨by simp [upd, e1], by simp [upd, e2], by simp [upd, e3], by simp [upd], ys ++ [b], _, _, by simp [hyl], by rw [List.map_append, hyc, htk, ← hb]; rfl, Live.none1 b.inn l3 (List.Perm.refl _) hyl, rfl⟩
  have hie : i = s.Done.list.length := by omega
  subst hie
  simp [e1, e2, e3, f0, putA]
  rw [List.take_length] at hyc
  obtain ⟨s3, G3, p1, p2, p3⟩ := hlive.fin
  obtain ⟨s2, G2, p4, p5, p6⟩ := hliveW.fin
  obtain ⟨s1, G1, p7, p8, p9⟩ := hliveQ.fin
  refine fin_all ⟨⟨.mk (c + 1 + 1 + 1 + 1) s.Files.list, bL, .mk (c2 + 1) s.Sessions.list, s1, s2, s3, s.Next, s.Now⟩, _, [_, _, _], T, G1 ++ (G2 ++ G3), rfl, .cons (by rw [hF]; exact .name) (.cons (.refl _) (.cons (by rw [hS]; exact .name) (.cons p8 (.cons p5 (.cons p2 (.cons (.refl _) (.cons (.refl _) .nil))))))), rfl, perm_cnt fun p => ?_, ?_⟩
  · have h1 := p3.countP_eq p
    have h2 := p6.countP_eq p
    have h3 := p9.countP_eq p
    subst hW
    simp only [TServer.inn, flat_wood, List.countP_append, List.countP_cons, List.countP_nil] at h1 h2 h3 ⊢
    omega
  · have e1 : s1.con TJob.con = s.Queue.con TJob.con := by unfold SL.con; rw [p7, hycQ]
    have e2 : s2.con TWorker.con = s.Workers.con TWorker.con := by unfold SL.con; rw [p4, hycW]
    have e3 : s3.con TAnswer.con = s.Done.con TAnswer.con := by unfold SL.con; rw [p1, hyc]
    have e5 : bL.con TLine.con = s.Lines.con TLine.con := by unfold SL.con; rw [qL]
    have e4 : (SL.mk (c + 1 + 1 + 1 + 1) s.Files.list).con TFile.con = s.Files.con TFile.con := rfl
    have e6 : (SL.mk (c2 + 1) s.Sessions.list).con TSession.con = s.Sessions.con TSession.con := rfl
    simp only [TServer.con, e1, e2, e3, e4, e5, e6]
theorem spec_cpSrvO {s : TServer} (hs : SmSrv s) (c : Nat) : Con Tryz.prog 20 [.agg s.enc] [] c fun r O _ => ∃ b : TServer, r = .agg b.encO ∧ O = b.inn ∧ b.con = s.con := con_copK (spec_cpSrvK hs c)
end A
end Go.Proofs.YtfcimcoanlgldaaGreat

/-
  Recover of the reference and of the program are the same plain function. No condition.
-/

namespace Go.Proofs.YtfcimcoanlgldaaGreat
namespace A
set_option linter.unusedVariables false
set_option linter.unusedSimpArgs false
set_option maxRecDepth 100000

/-- All lines, recovered. -/
def recover (owner : Int) (l : List TLine) : List TLine := if areLines l && decide (1 ≤ owner) then l.map (recL owner) else l
theorem areLines_con' {l m : List TLine} (h : l.map TLine.con = m.map TLine.con) : areLines l = areLines m := by
  have e : ∀ l : List TLine, areLines l = areLines (l.map TLine.con) := fun l => by
    unfold areLines
    rw [List.all_map, List.length_map]
    rfl
  rw [e, e m, h]
theorem recL_con (owner : Int) (x : TLine) : (recL owner x).con = (recL owner x.con).con := by
  unfold recL
  have : x.con.Owner = x.Owner := rfl
  rw [this]
  split <;> rfl
theorem recover_con {owner : Int} {l m : List TLine} (h : l.map TLine.con = m.map TLine.con) : (recover owner l).map TLine.con = (recover owner m).map TLine.con := by
  unfold recover
  rw [areLines_con' h]
  split
  · have e : ∀ l : List TLine, (l.map (recL owner)).map TLine.con = ((l.map TLine.con).map (recL owner)).map TLine.con := fun l => by
      rw [List.map_map, List.map_map, List.map_map]
      exact List.map_congr_left fun x _ => recL_con owner x
    rw [e, e m, h]
  · exact h

theorem spec_recO {s : SL TLine} {owner : Int} (hn : s.list.length ≤ 1048576) (hz : ∀ x, x ∈ s.list → x.Words.list.length ≤ 1048576) (c : Nat) :
    Con Tryz.prog 22 [s.av 4 TLine.enc, .int .i64 owner] [] c fun r O _ => ∃ b : SL TLine, r = b.ref 4 ∧ O = b.wood 4 TLine.encO TLine.inn ∧ b.list.map TLine.con = (recover owner s.list).map TLine.con := by
  refine con_of c22 (by simp [F22]) ?_
  unfold F22
  simp
  refine call_new (spec_copyO hn hz _) (Views.refl _ _) fun r O c1 hc ⟨b, hr, hO, hb⟩ _ _ => ?_
  subst hr; subst hO
  refine ⟨_, .refl _, free_ref _ _ _, fun o ho => free_wood TLine.freeO TLine.freeI _ o ho _, ?_⟩
  simp
  refine call_fn (spec_areLines (by unfold mx; omega)) (Views.refl _ _) .bool fun _ _ => ?_
  cases h1 : areLines s.list
  · simp
    exact fin_all ⟨b, rfl, rfl, by simp [recover, h1, hb]⟩
  by_cases h2 : 0 < owner
  rotate_left
  · simp [h2]
    exact fin_all ⟨b, rfl, rfl, by rw [hb]; unfold recover; rw [if_neg (by simp; intros; omega)]⟩
  simp [h2]
  have hbl : b.list.length = s.list.length := by simpa using congrArg List.length hb
  refine call_con (spec_recoverO (s := b) (owner := owner) (by omega) (fun x hx => ⟨(areLines_seq (by rw [areLines_con' hb]; exact h1) x hx).1, by have := (areLines_seq (by rw [areLines_con' hb]; exact h1) x hx).2; omega⟩) _) fun r H' c' _ ⟨q1, q2⟩ _ _ => ?_
  subst q1; subst q2
  refine ⟨.tup (by simp), fun o ho => free_wood TLine.freeO TLine.freeI _ o ho _, ?_⟩
  simp
  refine fin_all ⟨b.lmap (·.map (recL owner)), ?_, rfl, ?_⟩
  · cases b <;> simp [SL.lmap, SL.ref]
  · rw [SL.lmap_list (by simp)]
    have := recover_con (owner := owner) hb
    unfold recover at this ⊢
    rw [areLines_con' hb, h1] at this
    have h2' : (1 : Int) ≤ owner := by omega
    simp only [h2', decide_true, Bool.and_self, if_true] at this
    simp only [h1, h2', decide_true, Bool.and_self, if_true]
    exact this
theorem impl_recO {s : SL TLine} {owner : Int} (hn : s.list.length ≤ 1048576) (hz : ∀ x, x ∈ s.list → x.Words.list.length ≤ 1048576) (c : Nat) :
    Con Tryz.prog 31 [s.av 4 TLine.enc, .int .i64 owner] [] c fun r O _ => ∃ b : SL TLine, r = b.ref 4 ∧ O = b.wood 4 TLine.encO TLine.inn ∧ b.list.map TLine.con = (recover owner s.list).map TLine.con := by
  refine con_of c31 (by simp [F31]) ?_
  unfold F31
  simp
  refine call_new (impl_copyO hn hz _) (Views.refl _ _) fun r O c1 hc ⟨b, hr, hO, hb⟩ _ _ => ?_
  subst hr; subst hO
  refine ⟨_, .refl _, free_ref _ _ _, fun o ho => free_wood TLine.freeO TLine.freeI _ o ho _, ?_⟩
  simp
  refine call_fn (impl_areLines (by unfold mx; omega)) (Views.refl _ _) .bool fun _ _ => ?_
  cases h1 : areLines s.list
  · simp
    exact fin_all ⟨b, rfl, rfl, by simp [recover, h1, hb]⟩
  by_cases h2 : 1 ≤ owner
  rotate_left
  · simp [h2]
    exact fin_all ⟨b, rfl, rfl, by rw [hb]; unfold recover; rw [if_neg (by simp; intros; omega)]⟩
  simp [h2]
  have hbl : b.list.length = s.list.length := by simpa using congrArg List.length hb
  refine call_con (impl_recoverO (s := b) (owner := owner) (by omega) (fun x hx => ⟨(areLines_seq (by rw [areLines_con' hb]; exact h1) x hx).1, by have := (areLines_seq (by rw [areLines_con' hb]; exact h1) x hx).2; omega⟩) _) fun r H' c' _ ⟨q1, q2⟩ _ _ => ?_
  subst q1; subst q2
  refine ⟨.tup (by simp), fun o ho => free_wood TLine.freeO TLine.freeI _ o ho _, ?_⟩
  simp
  refine fin_all ⟨b.lmap (·.map (recL owner)), ?_, rfl, ?_⟩
  · cases b <;> simp [SL.lmap, SL.ref]
  · rw [SL.lmap_list (by simp)]
    have := recover_con (owner := owner) hb
    unfold recover at this ⊢
    rw [areLines_con' hb, h1] at this
    simp only [h2, decide_true, Bool.and_self, if_true] at this
    simp only [h1, h2, decide_true, Bool.and_self, if_true]
    exact this
end A
end Go.Proofs.YtfcimcoanlgldaaGreat

/-
  ReviveWork of the reference and of the program are the same plain function. No condition.
-/



namespace Go.Proofs.YtfcimcoanlgldaaGreat
namespace A
set_option linter.unusedVariables false
set_option linter.unusedSimpArgs false
set_option maxRecDepth 100000

def zeroW : TWorker := ⟨0, ⟨0, ⟨[], .nil, .nil⟩, []⟩, [], .nil, 0⟩
def revOk (s : TServer) (w : Int) : Bool := inR w 0 ((s.Workers.list.length : Int) - 1) && (match s.Workers.list[w.toNat]? with | some x => decide (x.State = 2) | none => false)
def revive (s : TServer) (w : Int) : TServer := if revOk s w then { s with Lines := .mk 0 (recover (w + 1) s.Lines.list), Workers := .mk 0 (s.Workers.list.set w.toNat zeroW) } else s
def RevK (s : TServer) (w : Int) (r : AV) (O : List AObj) : Prop := ∃ (b : TServer) (l : List AV) (U T G : List AObj), r = .tup [.agg l, .bool (revOk s w)] ∧ Views [] l b.encO ∧ O = U ++ T ∧ T.Perm (b.inn ++ G) ∧ b.con = (revive s w).con
def RevQ (s : TServer) (w : Int) (r : AV) (O : List AObj) : Prop := ∃ b : TServer, r = .tup [.agg b.encO, .bool (revOk s w)] ∧ O = b.inn ∧ b.con = (revive s w).con
theorem con_revK {f : Nat} {args : List AV} {s : TServer} {w : Int} {c : Nat} (h : Con Tryz.prog f args [] c fun r O _ => RevK s w r O) : Con Tryz.prog f args [] c fun r O _ => RevQ s w r O :=
  Con.fin (con_perm (Q' := fun r O _ => ∃ (b : TServer) (l : List AV), r = .tup [.agg l, .bool (revOk s w)] ∧ Views [] l b.encO ∧ O = b.inn ∧ b.con = (revive s w).con) h fun r O c' ⟨b, l, U, T, G, h1, h2, h3, h4, h5⟩ => by
    obtain ⟨Ts, hTp, hTs⟩ := List.exists_perm_sublist (List.sublist_append_left b.inn G) h4.symm
    exact ⟨Ts, b.inn, by rw [h3]; exact hTs.trans (List.sublist_append_right _ _), hTp.symm, b, l, h1, h2, rfl, h5⟩) fun r O c' _ ⟨b, l, h1, h2, h3, h4⟩ _ _ => by
      subst h1; subst h3
      exact fin_sub (List.Sublist.refl _) (view_tup (.cons (view_agg h2 b.cellsO) (.cons (.refl _) .nil))) ⟨b, rfl, rfl, h4⟩
theorem lines_words {l m : List TLine} (h : l.map TLine.con = m.map TLine.con) (hz : ∀ x, x ∈ m → x.Words.list.length ≤ 1048576) : ∀ x, x ∈ l → x.Words.list.length ≤ 1048576 := fun x hx => by
  have : x.con ∈ m.map TLine.con := by rw [← h]; exact List.mem_map.2 ⟨x, hx, rfl⟩
  obtain ⟨y, hy, he⟩ := List.mem_map.1 this
  have e : x.Words.list = y.Words.list := by
    have := congrArg (fun t : TLine => t.Words.list) he
    simpa [TLine.con, SL.pcon] using this.symm
  rw [e]; exact hz y hy
theorem set_cnt {α : Type} {inn : α → List AObj} {l : List α} {k : Nat} (h : k < l.length) (z : α) (p : AObj → Bool) : ((l.set k z).flatMap inn).countP p + (inn l[k]).countP p = (l.flatMap inn).countP p + (inn z).countP p := by
  have e : l = l.take k ++ l[k] :: l.drop (k + 1) := by rw [← List.drop_eq_getElem_cons h, List.take_append_drop]
  have e1 : (l.flatMap inn).countP p = ((l.take k).flatMap inn).countP p + ((inn l[k]).countP p + ((l.drop (k + 1)).flatMap inn).countP p) := by
    rw [show l.flatMap inn = (l.take k ++ l[k] :: l.drop (k + 1)).flatMap inn from congrArg (fun m => List.flatMap inn m) e]
    simp only [List.flatMap_append, List.flatMap_cons, List.countP_append]
  rw [List.set_eq_take_append_cons_drop, if_pos h, e1]
  simp only [List.flatMap_append, List.flatMap_cons, List.countP_append]
  omega
@[simp] theorem getW_mid4 {α : Type} (A T M N : List α) (X W : α) (K : α → Prop) : getW (A ++ X :: (T ++ (M ++ W :: N))) (A.length + (T.length + M.length + 1)) K = K W := getW_n1 A T M N X W K

theorem impl_revK {s : TServer} {w : Int} (hs : SmSrv s) (hw : -9223372036854775808 ≤ w ∧ w ≤ 9223372036854775807) (c : Nat) : Con Tryz.prog 8 [.agg s.enc, .int .i64 w] [] c fun r O _ => RevK s w r O := by
  have z7 := hs.2.2.2.2.2.2.1
  have hw1 : IntKind.i64.wrap ((s.Workers.list.length : Int) - 1) = (s.Workers.list.length : Int) - 1 := wrap64 (by omega) (by omega)
  refine con_of c8 (by simp [F8]) ?_
  unfold F8
  cases hok : revOk s w
  · simp [putA]
    refine call_new (impl_cpSrvO hs _) (Views.refl _ _) fun r1 O1 c1 hc1 ⟨b0, hr, hO, q0⟩ _ _ => ?_
    subst hr; subst hO
    refine ⟨_, .refl _, free_agg (TServer.freeO b0) _, fun o ho => TServer.freeI b0 o ho _, ?_⟩
    simp [putA, hw1]
    refine call_fn0 (inRange_fn _ _ _) .bool fun _ _ => ?_
    have hrv : (revive s w) = s := by unfold revive; rw [hok]; rfl
    have fin : ∀ (U : List AObj) (x : AObj), RevK s w (.tup [.agg b0.encO, .bool false]) (U ++ (b0.inn ++ [x])) := fun U x => ⟨b0, b0.encO, U, b0.inn ++ [x], [x], by rw [hok], Views.refl _ _, rfl, List.Perm.refl _, by rw [hrv]; exact q0⟩
    cases hin : inR w 0 ((s.Workers.list.length : Int) - 1)
    · simp [putA]
      exact fin_all (fin [_, _] _)
    · have hin0 := hin
      unfold inR at hin
      simp only [Bool.and_eq_true, decide_eq_true_eq] at hin
      obtain ⟨k, rfl⟩ := Int.eq_ofNat_of_zero_le hin.1
      have hk : k < s.Workers.list.length := by omega
      have hg : s.Workers.list[k]? = some s.Workers.list[k] := List.getElem?_eq_getElem hk
      unfold revOk at hok
      rw [hin0, Int.toNat_natCast, hg] at hok
      simp only [Bool.true_and, decide_eq_false_iff_not] at hok
      generalize s.Workers.list[k] = x at hg hok
      simp [putA, hk]
      refine ⟨x, hg, ?_⟩
      simp [putA, hk, hok]
      exact fin_all (fin [_, _] _)
  · have hok0 := hok
    unfold revOk at hok
    rw [Bool.and_eq_true] at hok
    obtain ⟨hin0, hst⟩ := hok
    have hin := hin0
    unfold inR at hin
    simp only [Bool.and_eq_true, decide_eq_true_eq] at hin
    obtain ⟨k, rfl⟩ := Int.eq_ofNat_of_zero_le hin.1
    have hk : k < s.Workers.list.length := by omega
    have hg : s.Workers.list[k]? = some s.Workers.list[k] := List.getElem?_eq_getElem hk
    rw [Int.toNat_natCast, hg] at hst
    simp only [decide_eq_true_eq] at hst
    have hw2 : IntKind.i64.wrap ((k : Int) + 1) = (k : Int) + 1 := wrap64 (by omega) (by omega)
    have hrv : revive s k = { s with Lines := .mk 0 (recover ((k : Int) + 1) s.Lines.list), Workers := .mk 0 (s.Workers.list.set k zeroW) } := by unfold revive; rw [hok0]; rfl
    simp [putA]
    refine call_new (impl_cpSrvO hs _) (Views.refl _ _) fun r1 O1 c1 hc1 ⟨b0, hr, hO, q0⟩ _ _ => ?_
    subst hr; subst hO
    have qL : b0.Lines.list.map TLine.con = s.Lines.list.map TLine.con := congrArg (fun t : TServer => t.Lines.list) q0
    have qW : b0.Workers.list.map TWorker.con = s.Workers.list.map TWorker.con := congrArg (fun t : TServer => t.Workers.list) q0
    have qWl : b0.Workers.list.length = s.Workers.list.length := by simpa using congrArg List.length qW
    have qLl : b0.Lines.list.length = s.Lines.list.length := by simpa using congrArg List.length qL
    have qLw := lines_words qL hs.2.2.1
    obtain ⟨bF, bL, bS, bQ, bW, bD, bN, bT⟩ := b0
    simp only at qL qW qWl qLl qLw
    cases bW with
    | nil => simp at qWl; omega
    | mk t ws =>
    simp only [SL.list_mk] at qW qWl
    obtain ⟨A, hA⟩ : ∃ A : List AObj, A = bF.wood 3 TFile.enc noInn ++ (bL.wood 4 TLine.encO TLine.inn ++ (bS.wood 4 TSession.enc noInn ++ bQ.wood 5 TJob.encO TJob.inn)) := ⟨_, rfl⟩
    obtain ⟨M, hM⟩ : ∃ M : List AObj, M = ws.flatMap TWorker.inn ++ bD.wood 11 TAnswer.encO TAnswer.inn := ⟨_, rfl⟩
    have hI : (TServer.mk bF bL bS bQ (.mk t ws) bD bN bT).inn = A ++ (⟨false, t, 9, ws.map TWorker.encO⟩ :: M) := by
      rw [hA, hM]; simp [TServer.inn, SL.wood, wood]
    rw [hI]
    refine ⟨.agg [bF.ref 3, bL.ref 4, bS.ref 4, bQ.ref 5, .ref (A.length + 2) t 9 ws.length, bD.ref 11, .int .i64 bN, .int .i64 bT], view_agg (.cons (.refl _) (.cons (.refl _) (.cons (.refl _) (.cons (.refl _) (.cons .name (.cons (.refl _) (.cons (.refl _) (.cons (.refl _) .nil)))))))) ?_, ?_, ?_, ?_⟩
    · intro a ha
      simp only [List.mem_cons, List.not_mem_nil, or_false] at ha
      rcases ha with rfl | rfl | rfl | rfl | rfl | rfl | rfl | rfl <;> first | rfl | exact cell_rf _ _
    · refine free_agg (fun a ha => ?_) _
      simp only [List.mem_cons, List.not_mem_nil, or_false] at ha
      rcases ha with rfl | rfl | rfl | rfl | rfl | rfl | rfl | rfl
      · exact free_ref _ _
      · exact free_ref _ _
      · exact free_ref _ _
      · exact free_ref _ _
      · exact fun _ => .ref
      · exact free_ref _ _
      · exact free_int _ _
      · exact free_int _ _
    · intro o ho
      rw [← hI] at ho
      exact TServer.freeI _ o ho _
    simp [putA, hw1, hw2, qWl, hk]
    refine call_fn0 (inRange_fn _ _ _) .bool fun _ _ => ?_
    simp [putA, hin0, hk]
    refine ⟨_, hg, ?_⟩
    simp [putA, hin0, hk, hst, hw2, qWl]
    have hk2 : k < ws.length := by omega
    have gw : ws[k]? = some ws[k] := List.getElem?_eq_getElem hk2
    have hdr : ∀ y : TWorker, List.drop 9 y.encO = [] := fun _ => rfl
    refine ⟨_, gw, ?_⟩
    simp [hdr]
    refine call_new (impl_recO (s := bL) (owner := (k : Int) + 1) (by have := hs.2.1; omega) qLw _) (.cons (view_line (fun o ho => by simp [hA, ho])) (.cons (.refl _) .nil)) fun r O c3 _ ⟨bl, hr, hO, ql⟩ _ _ => ?_
    subst hr; subst hO
    refine ⟨_, .refl _, free_ref _ _ _, fun o ho => free_wood TLine.freeO TLine.freeI _ o ho _, ?_⟩
    simp [putA]
    refine fin_all ⟨⟨bF, bl, bS, bQ, .mk t (ws.set k zeroW), bD, bN, bT⟩, _, [_, _], A ++ (⟨false, t, 9, (ws.map TWorker.encO).set k [.int .i64 0, .int .i64 0, .str [], .nsl, .nsl, .str [], .str [], .nsl, .int .i64 0]⟩ :: (M ++ (⟨false, c1, 8, [[bF.ref 3, bl.ref 4, bS.ref 4, bQ.ref 5, .ref (A.length + 2) t 9 s.Workers.list.length, bD.ref 11, .int .i64 bN, .int .i64 bT]]⟩ :: bl.wood 4 TLine.encO TLine.inn))), bL.wood 4 TLine.encO TLine.inn ++ (ws[k].inn ++ [⟨false, c1, 8, [[bF.ref 3, bl.ref 4, bS.ref 4, bQ.ref 5, .ref (A.length + 2) t 9 s.Workers.list.length, bD.ref 11, .int .i64 bN, .int .i64 bT]]⟩]), by rw [hok0], .cons (.refl _) (.cons (.refl _) (.cons (.refl _) (.cons (.refl _) (.cons (by simp only [SL.ref, List.length_set, qWl]; exact .name) (.cons (.refl _) (.cons (.refl _) (.cons (.refl _) .nil))))))), rfl, perm_cnt fun p => ?_, ?_⟩
    · have h1 := set_cnt (inn := TWorker.inn) hk2 zeroW p
      have h2 : zeroW.inn = [] := rfl
      have h3 : (SL.mk t (ws.set k zeroW)).wood 9 TWorker.encO TWorker.inn = ⟨false, t, 9, (ws.map TWorker.encO).set k zeroW.encO⟩ :: (ws.set k zeroW).flatMap TWorker.inn := by rw [← List.map_set]; rfl
      rw [h2] at h1
      simp only [TServer.inn, h3, hA, hM, List.countP_append, List.countP_cons, List.countP_nil] at h1 ⊢
      have h4 : zeroW.encO = [.int .i64 0, .int .i64 0, .str [], .nsl, .nsl, .str [], .str [], .nsl, .int .i64 0] := rfl
      rw [h4]
      omega
    · rw [hrv]
      have cF : bF.con TFile.con = s.Files.con TFile.con := congrArg TServer.Files q0
      have cS : bS.con TSession.con = s.Sessions.con TSession.con := congrArg TServer.Sessions q0
      have cQ : bQ.con TJob.con = s.Queue.con TJob.con := congrArg TServer.Queue q0
      have cD : bD.con TAnswer.con = s.Done.con TAnswer.con := congrArg TServer.Done q0
      have cN : bN = s.Next := congrArg TServer.Next q0
      have cT : bT = s.Now := congrArg TServer.Now q0
      have cL : bl.con TLine.con = (SL.mk 0 (recover ((k : Int) + 1) s.Lines.list)).con TLine.con := by unfold SL.con; rw [ql, SL.list_mk, recover_con qL]
      have cW : (SL.mk t (ws.set k zeroW)).con TWorker.con = (SL.mk 0 (s.Workers.list.set k zeroW)).con TWorker.con := by unfold SL.con; rw [SL.list_mk, SL.list_mk, List.map_set, List.map_set, qW]
      simp only [TServer.con, cF, cS, cQ, cD, cN, cT, cL, cW, Int.toNat_natCast]
theorem impl_revO {s : TServer} {w : Int} (hs : SmSrv s) (hw : -9223372036854775808 ≤ w ∧ w ≤ 9223372036854775807) (c : Nat) : Con Tryz.prog 8 [.agg s.enc, .int .i64 w] [] c fun r O _ => RevQ s w r O := con_revK (impl_revK hs hw c)
theorem spec_revK {s : TServer} {w : Int} (hs : SmSrv s) (hw : -9223372036854775808 ≤ w ∧ w ≤ 9223372036854775807) (c : Nat) : Con Tryz.prog 6 [.agg s.enc, .int .i64 w] [] c fun r O _ => RevK s w r O := by
  have z7 := hs.2.2.2.2.2.2.1
  have hw1 : IntKind.i64.wrap ((s.Workers.list.length : Int) - 1) = (s.Workers.list.length : Int) - 1 := wrap64 (by omega) (by omega)
  refine con_of c6 (by simp [F6]) ?_
  unfold F6
  cases hok : revOk s w
  · simp [putA]
    refine call_new (spec_cpSrvO hs _) (Views.refl _ _) fun r1 O1 c1 hc1 ⟨b0, hr, hO, q0⟩ _ _ => ?_
    subst hr; subst hO
    refine ⟨_, .refl _, free_agg (TServer.freeO b0) _, fun o ho => TServer.freeI b0 o ho _, ?_⟩
    simp [putA, hw1]
    refine call_fn0 (l1In_fn _ _ _) .bool fun _ _ => ?_
    have hrv : (revive s w) = s := by unfold revive; rw [hok]; rfl
    have fin : ∀ (U : List AObj) (x : AObj), RevK s w (.tup [.agg b0.encO, .bool false]) (U ++ (b0.inn ++ [x])) := fun U x => ⟨b0, b0.encO, U, b0.inn ++ [x], [x], by rw [hok], Views.refl _ _, rfl, List.Perm.refl _, by rw [hrv]; exact q0⟩
    cases hin : inR w 0 ((s.Workers.list.length : Int) - 1)
    · simp [putA]
      exact fin_all (fin [_, _] _)
    · have hin0 := hin
      unfold inR at hin
      simp only [Bool.and_eq_true, decide_eq_true_eq] at hin
      obtain ⟨k, rfl⟩ := Int.eq_ofNat_of_zero_le hin.1
      have hk : k < s.Workers.list.length := by omega
      have hg : s.Workers.list[k]? = some s.Workers.list[k] := List.getElem?_eq_getElem hk
      unfold revOk at hok
      rw [hin0, Int.toNat_natCast, hg] at hok
      simp only [Bool.true_and, decide_eq_false_iff_not] at hok
      generalize s.Workers.list[k] = x at hg hok
      simp [putA, hk]
      refine ⟨x, hg, ?_⟩
      simp [putA, hk, hok]
      exact fin_all (fin [_, _] _)
  · have hok0 := hok
    unfold revOk at hok
    rw [Bool.and_eq_true] at hok
    obtain ⟨hin0, hst⟩ := hok
    have hin := hin0
    unfold inR at hin
    simp only [Bool.and_eq_true, decide_eq_true_eq] at hin
    obtain ⟨k, rfl⟩ := Int.eq_ofNat_of_zero_le hin.1
    have hk : k < s.Workers.list.length := by omega
    have hg : s.Workers.list[k]? = some s.Workers.list[k] := List.getElem?_eq_getElem hk
    rw [Int.toNat_natCast, hg] at hst
    simp only [decide_eq_true_eq] at hst
    have hw2 : IntKind.i64.wrap ((k : Int) + 1) = (k : Int) + 1 := wrap64 (by omega) (by omega)
    have hrv : revive s k = { s with Lines := .mk 0 (recover ((k : Int) + 1) s.Lines.list), Workers := .mk 0 (s.Workers.list.set k zeroW) } := by unfold revive; rw [hok0]; rfl
    simp [putA]
    refine call_new (spec_cpSrvO hs _) (Views.refl _ _) fun r1 O1 c1 hc1 ⟨b0, hr, hO, q0⟩ _ _ => ?_
    subst hr; subst hO
    have qL : b0.Lines.list.map TLine.con = s.Lines.list.map TLine.con := congrArg (fun t : TServer => t.Lines.list) q0
    have qW : b0.Workers.list.map TWorker.con = s.Workers.list.map TWorker.con := congrArg (fun t : TServer => t.Workers.list) q0
    have qWl : b0.Workers.list.length = s.Workers.list.length := by simpa using congrArg List.length qW
    have qLl : b0.Lines.list.length = s.Lines.list.length := by simpa using congrArg List.length qL
    have qLw := lines_words qL hs.2.2.1
    obtain ⟨bF, bL, bS, bQ, bW, bD, bN, bT⟩ := b0
    simp only at qL qW qWl qLl qLw
    cases bW with
    | nil => simp at qWl; omega
    | mk t ws =>
    simp only [SL.list_mk] at qW qWl
    obtain ⟨A, hA⟩ : ∃ A : List AObj, A = bF.wood 3 TFile.enc noInn ++ (bL.wood 4 TLine.encO TLine.inn ++ (bS.wood 4 TSession.enc noInn ++ bQ.wood 5 TJob.encO TJob.inn)) := ⟨_, rfl⟩
    obtain ⟨M, hM⟩ : ∃ M : List AObj, M = ws.flatMap TWorker.inn ++ bD.wood 11 TAnswer.encO TAnswer.inn := ⟨_, rfl⟩
    have hI : (TServer.mk bF bL bS bQ (.mk t ws) bD bN bT).inn = A ++ (⟨false, t, 9, ws.map TWorker.encO⟩ :: M) := by
      rw [hA, hM]; simp [TServer.inn, SL.wood, wood]
    rw [hI]
    refine ⟨.agg [bF.ref 3, bL.ref 4, bS.ref 4, bQ.ref 5, .ref (A.length + 2) t 9 ws.length, bD.ref 11, .int .i64 bN, .int .i64 bT], view_agg (.cons (.refl _) (.cons (.refl _) (.cons (.refl _) (.cons (.refl _) (.cons .name (.cons (.refl _) (.cons (.refl _) (.cons (.refl _) .nil)))))))) ?_, ?_, ?_, ?_⟩
    · intro a ha
      simp only [List.mem_cons, List.not_mem_nil, or_false] at ha
      rcases ha with rfl | rfl | rfl | rfl | rfl | rfl | rfl | rfl <;> first | rfl | exact cell_rf _ _
    · refine free_agg (fun a ha => ?_) _
      simp only [List.mem_cons, List.not_mem_nil, or_false] at ha
      rcases ha with rfl | rfl | rfl | rfl | rfl | rfl | rfl | rfl
      · exact free_ref _ _
      · exact free_ref _ _
      · exact free_ref _ _
      · exact free_ref _ _
      · exact fun _ => .ref
      · exact free_ref _ _
      · exact free_int _ _
      · exact free_int _ _
    · intro o ho
      rw [← hI] at ho
      exact TServer.freeI _ o ho _
    simp [putA, hw1, hw2, qWl, hk]
    refine call_fn0 (l1In_fn _ _ _) .bool fun _ _ => ?_
    simp [putA, hin0, hk]
    refine ⟨_, hg, ?_⟩
    simp [putA, hin0, hk, hst, hw2, qWl]
    have hk2 : k < ws.length := by omega
    have gw : ws[k]? = some ws[k] := List.getElem?_eq_getElem hk2
    have hdr : ∀ y : TWorker, List.drop 9 y.encO = [] := fun _ => rfl
    refine ⟨_, gw, ?_⟩
    simp [hdr]
    refine call_new (spec_recO (s := s.Lines) (owner := (k : Int) + 1) hs.2.1 hs.2.2.1 _) (Views.refl _ _) fun r O c3 _ ⟨bl, hr, hO, ql⟩ _ _ => ?_
    subst hr; subst hO
    refine ⟨_, .refl _, free_ref _ _ _, fun o ho => free_wood TLine.freeO TLine.freeI _ o ho _, ?_⟩
    simp [putA]
    refine fin_all ⟨⟨bF, bl, bS, bQ, .mk t (ws.set k zeroW), bD, bN, bT⟩, _, [_, _], A ++ (⟨false, t, 9, (ws.map TWorker.encO).set k [.int .i64 0, .int .i64 0, .str [], .nsl, .nsl, .str [], .str [], .nsl, .int .i64 0]⟩ :: (M ++ (⟨false, c1, 8, [[bF.ref 3, bl.ref 4, bS.ref 4, bQ.ref 5, .ref (A.length + 2) t 9 s.Workers.list.length, bD.ref 11, .int .i64 bN, .int .i64 bT]]⟩ :: bl.wood 4 TLine.encO TLine.inn))), bL.wood 4 TLine.encO TLine.inn ++ (ws[k].inn ++ [⟨false, c1, 8, [[bF.ref 3, bl.ref 4, bS.ref 4, bQ.ref 5, .ref (A.length + 2) t 9 s.Workers.list.length, bD.ref 11, .int .i64 bN, .int .i64 bT]]⟩]), by rw [hok0], .cons (.refl _) (.cons (.refl _) (.cons (.refl _) (.cons (.refl _) (.cons (by simp only [SL.ref, List.length_set, qWl]; exact .name) (.cons (.refl _) (.cons (.refl _) (.cons (.refl _) .nil))))))), rfl, perm_cnt fun p => ?_, ?_⟩
    · have h1 := set_cnt (inn := TWorker.inn) hk2 zeroW p
      have h2 : zeroW.inn = [] := rfl
      have h3 : (SL.mk t (ws.set k zeroW)).wood 9 TWorker.encO TWorker.inn = ⟨false, t, 9, (ws.map TWorker.encO).set k zeroW.encO⟩ :: (ws.set k zeroW).flatMap TWorker.inn := by rw [← List.map_set]; rfl
      rw [h2] at h1
      simp only [TServer.inn, h3, hA, hM, List.countP_append, List.countP_cons, List.countP_nil] at h1 ⊢
      have h4 : zeroW.encO = [.int .i64 0, .int .i64 0, .str [], .nsl, .nsl, .str [], .str [], .nsl, .int .i64 0] := rfl
      rw [h4]
      omega
    · rw [hrv]
      have cF : bF.con TFile.con = s.Files.con TFile.con := congrArg TServer.Files q0
      have cS : bS.con TSession.con = s.Sessions.con TSession.con := congrArg TServer.Sessions q0
      have cQ : bQ.con TJob.con = s.Queue.con TJob.con := congrArg TServer.Queue q0
      have cD : bD.con TAnswer.con = s.Done.con TAnswer.con := congrArg TServer.Done q0
      have cN : bN = s.Next := congrArg TServer.Next q0
      have cT : bT = s.Now := congrArg TServer.Now q0
      have cL : bl.con TLine.con = (SL.mk 0 (recover ((k : Int) + 1) s.Lines.list)).con TLine.con := by unfold SL.con; rw [ql, SL.list_mk]
      have cW : (SL.mk t (ws.set k zeroW)).con TWorker.con = (SL.mk 0 (s.Workers.list.set k zeroW)).con TWorker.con := by unfold SL.con; rw [SL.list_mk, SL.list_mk, List.map_set, List.map_set, qW]
      simp only [TServer.con, cF, cS, cQ, cD, cN, cT, cL, cW, Int.toNat_natCast]
theorem spec_revO {s : TServer} {w : Int} (hs : SmSrv s) (hw : -9223372036854775808 ≤ w ∧ w ≤ 9223372036854775807) (c : Nat) : Con Tryz.prog 6 [.agg s.enc, .int .i64 w] [] c fun r O _ => RevQ s w r O := con_revK (spec_revK hs hw c)
end A
end Go.Proofs.YtfcimcoanlgldaaGreat
