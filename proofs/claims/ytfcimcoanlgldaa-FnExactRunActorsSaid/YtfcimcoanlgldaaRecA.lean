/-
  Lines copied, and recovered in place, by the reference and by the program. No condition.
-/
import Derived.Test.YtfcimcoanlgldaaLines
import Derived.Test.YtfcimcoanlgldaaMLine
namespace Go.Proofs.Ytfcimcoanlgldaa
namespace A
set_option linter.unusedVariables false
set_option linter.unusedSimpArgs false
set_option maxRecDepth 100000

def inns (l : List TLine) : List AObj := l.flatMap TLine.inn
theorem wood_inns (t : Nat) (l : List TLine) : (SL.mk t l).wood 4 TLine.encO TLine.inn = ⟨false, t, 4, l.map TLine.encO⟩ :: inns l := rfl
theorem inns_app (l m : List TLine) : inns (l ++ m) = inns l ++ inns m := List.flatMap_append ..
theorem inns_one (x : TLine) : inns [x] = x.inn := by simp [inns]
theorem inns_cons (x : TLine) (l : List TLine) : inns (x :: l) = x.inn ++ inns l := List.flatMap_cons ..

theorem av_words (s : SL Int) : Av [] (s.av 1 encI) := by
  cases s with
  | nil => exact .nsl
  | mk t l =>
    exact .slc (by simp) fun r j x a hx ha => by
      obtain ⟨n, _, rfl⟩ := List.mem_map.1 (List.mem_of_getElem? hx)
      have := List.mem_of_getElem? ha
      simp [encI] at this; subst this; exact .int
theorem av_line (x : TLine) : ∀ a, a ∈ x.enc → Av [] a := fun a ha => by
  simp [TLine.enc] at ha
  rcases ha with rfl | rfl | rfl | rfl
  · exact .int
  · exact .int
  · exact .int
  · exact av_words _

/-- Copied so far: new lines, then the old ones. -/
def cpRows (ys l : List TLine) (i : Nat) : List (List AV) := ys.map TLine.encO ++ (l.drop i).map TLine.enc
theorem cpRows_len {ys l : List TLine} {i : Nat} (h : ys.length = i) (hi : i ≤ l.length) : (cpRows ys l i).length = l.length := by simp [cpRows, h]; omega
theorem cpRows_get {ys l : List TLine} {i : Nat} (h : ys.length = i) (hi : i < l.length) : (cpRows ys l i)[i]? = some l[i].enc := by
  unfold cpRows
  rw [List.getElem?_append_right (by simp; omega), List.length_map, h, Nat.sub_self, List.drop_eq_getElem_cons hi]; rfl
theorem cpRows_set {ys l : List TLine} {i : Nat} (h : ys.length = i) (hi : i < l.length) (y : TLine) : (cpRows ys l i).set i y.encO = cpRows (ys ++ [y]) l (i + 1) := by
  unfold cpRows
  rw [List.set_append_right _ _ (by simp; omega), List.length_map, h, Nat.sub_self, List.drop_eq_getElem_cons hi, List.map_cons, List.set_cons_zero]
  simp
theorem cpRows_zero (l : List TLine) : cpRows [] l 0 = l.map TLine.enc := by simp [cpRows]
theorem cpRows_all {ys l : List TLine} : cpRows ys l l.length = ys.map TLine.encO := by simp [cpRows]

theorem impl_copyO {s : SL TLine} (hn : s.list.length ≤ 1048576) (hz : ∀ x, x ∈ s.list → x.Words.list.length ≤ 1048576) (c : Nat) :
    Con Try.prog 40 [s.av 4 TLine.enc] [] c fun r O _ => ∃ b : SL TLine, r = b.ref 4 ∧ O = b.wood 4 TLine.encO TLine.inn ∧ b.list.map TLine.con = s.list.map TLine.con := by
  refine con_of c40 (by simp [F40]) ?_
  unfold F40
  simp
  refine call_new (clone_con (b := 48) (z := [.int .i64 0, .int .i64 0, .int .i64 0, .nsl]) c76 (by omega) (by unfold mx; omega) _) (Views.refl _ _) fun r O c1 hc ⟨x, hr, hO, hx⟩ _ _ => ?_
  subst hr
  refine ⟨_, .refl _, free_ref _ _ _, fun o ho => ?_, ?_⟩
  · subst hO
    cases x with
    | nil => cases ho
    | mk t l =>
      rw [flat_wood] at ho
      simp only [List.mem_singleton] at ho
      subst ho
      exact avRows_of fun row hr a ha => by
        obtain ⟨y, _, rfl⟩ := List.mem_map.1 hr
        exact av_line y a ha
  simp
  cases x with
  | nil =>
    have h0 : s.list = [] := hx.symm
    have hO' : O = [] := hO
    subst hO'
    refine loop_drop 0 (fun i e H c' => e 3 = .nsl ∧ e 9 = .int .i64 0 ∧ e 10 = .int .i64 0 ∧ H = []) ⟨rfl, by simp [h0], rfl, rfl⟩ ?_
    intro i e H c' hi ⟨e3, e9, e10, hH⟩ N hN
    subst hH
    simp [e3, e9, e10]
    exact fin_all ⟨.nil, rfl, rfl, by simp [h0]⟩
  | mk t l =>
    simp only [SL.list_mk] at hx
    subst hx
    rw [flat_wood] at hO
    subst hO
    refine loop_drop s.list.length (fun i e H c' => e 3 = .ref 0 t 4 s.list.length ∧ e 8 = s.av 4 TLine.enc ∧ e 9 = .int .i64 s.list.length ∧ e 10 = .int .i64 i ∧ ∃ ys : List TLine, ys.length = i ∧ ys.map TLine.con = (s.list.take i).map TLine.con ∧ H = ⟨false, t, 4, cpRows ys s.list i⟩ :: inns ys) ⟨rfl, rfl, rfl, rfl, [], rfl, rfl, by rw [cpRows_zero]; rfl⟩ ?_
    intro i e H c' hi ⟨e3, e8, e9, e10, ys, hy, hcon, hH⟩ N hN
    subst hH
    simp [e3, e8, e9, e10]
    refine ⟨fun h => ⟨s.list[i], List.getElem?_eq_getElem h, ?_⟩, fun h => ?_⟩
    · have hlen := cpRows_len hy hi
      have hget := cpRows_get hy h
      have hset := cpRows_set hy h
      have hw := hz _ (List.getElem_mem h)
      have htk : (s.list.take (i + 1)).map TLine.con = (s.list.take i).map TLine.con ++ [s.list[i].con] := by rw [List.take_succ_eq_append_getElem h, List.map_append]; rfl
      generalize s.list[i] = x at hget hset hw htk
      simp [e3, e8, e9, e10, h]
      refine call_new (cloneIO hw _) (Views.refl _ _) fun r O c2 hc2 ⟨w, hr, hO, hwl⟩ _ _ => ?_
      subst hr; subst hO
      refine ⟨_, .refl _, free_ref _ _ _, fun o ho => flat_free encI_flat _ _ o ho _, ?_⟩
      simp [e3, e8, e9, e10, h]
      refine ⟨_, hget, ?_⟩
      simp [hlen, putA, TLine.enc]
      refine hN _ _ (⟨false, t, 4, cpRows (ys ++ [⟨x.Seq, x.Owner, x.Version, w⟩]) s.list (i + 1)⟩ :: inns (ys ++ [⟨x.Seq, x.Owner, x.Version, w⟩])) _ h ?_ ⟨by simp [upd, e3], by simp [upd, e8], by simp [upd, e9], by simp [upd]; exact step64 (by unfold mx; omega) h, ys ++ [⟨x.Seq, x.Owner, x.Version, w⟩], by simp [hy], ?_, rfl⟩
      · rw [inns_app, inns_one, ← hset]
        exact (List.Sublist.append (List.Sublist.refl _) ((List.Sublist.refl _).cons _)).cons_cons _
      · rw [List.map_append, hcon, htk]
        simp [TLine.con, SL.pcon, hwl]
    · have h1 : i = s.list.length := by omega
      subst h1
      refine fin_all ⟨.mk t ys, by simp [SL.ref, hy], by rw [wood_inns, cpRows_all], ?_⟩
      simpa using hcon

/-- Rows whose inner slices are named by their places. -/
def encX (k : Nat) (x : TLine) : List AV := [.int .i64 x.Seq, .int .i64 x.Owner, .int .i64 x.Version, x.Words.at_ k 1]
def rowsX (ks : List (Nat × TLine)) : List (List AV) := ks.map fun p => encX p.1 p.2
theorem renX (t : Nat) (ks : List (Nat × TLine)) : RenO [] ⟨false, t, 4, rowsX ks⟩ ⟨false, t, 4, (ks.map (·.2)).map TLine.encO⟩ where
  mp := rfl
  tag := rfl
  w := rfl
  len := by simp [rowsX]
  maps h := by cases h
  row r x x' h1 h2 := by
    simp only [rowsX, List.getElem?_map, Option.map_eq_some_iff] at h1 h2
    obtain ⟨p, hp, rfl⟩ := h1
    obtain ⟨y, ⟨q, hq, rfl⟩, rfl⟩ := h2
    rw [hp] at hq; cases hq
    refine ⟨rfl, fun j a a' h3 h4 => ?_⟩
    match j, h3, h4 with
    | 0, h3, h4 => simp [encX] at h3; simp [TLine.encO] at h4; exact .inl (by rw [← h3, ← h4])
    | 1, h3, h4 => simp [encX] at h3; simp [TLine.encO] at h4; exact .inl (by rw [← h3, ← h4])
    | 2, h3, h4 => simp [encX] at h3; simp [TLine.encO] at h4; exact .inl (by rw [← h3, ← h4])
    | 3, h3, h4 =>
      simp [encX] at h3; simp [TLine.encO] at h4
      subst h3; subst h4
      exact .inr ⟨cell_ref _ _, view_at' _ _ _ _⟩
    | j + 4, h3, h4 => simp [encX] at h3

theorem spec_copyM {s : SL TLine} (hn : s.list.length ≤ 1048576) (hz : ∀ x, x ∈ s.list → x.Words.list.length ≤ 1048576) (c : Nat) :
    Con Try.prog 32 [s.av 4 TLine.enc] [] c fun r O _ => ∃ b : SL TLine, r = b.ref 4 ∧ O = b.wood 4 TLine.encO TLine.inn ∧ b.list.map TLine.con = s.list.map TLine.con ∧ ∃ t, b = .mk t b.list := by
  refine con_of c32 (by simp [F32]) ?_
  unfold F32
  simp
  refine loop_drop s.list.length (fun i e H c' => e 0 = s.av 4 TLine.enc ∧ e 4 = .int .i64 i ∧ ∃ (t : Nat) (ks : List (Nat × TLine)), e 3 = .ref 0 t 4 i ∧ ks.length = i ∧ (ks.map (·.2)).map TLine.con = (s.list.take i).map TLine.con ∧ H = ⟨false, t, 4, rowsX ks⟩ :: inns (ks.map (·.2))) ⟨rfl, rfl, _, [], rfl, rfl, rfl, rfl⟩ ?_
  intro i e H c' hi ⟨e0, e4, t, ks, e3, hy, hcon, hH⟩ N hN
  subst hH
  have hrl : (rowsX ks).length = i := by simp [rowsX, hy]
  generalize hys : ks.map (·.2) = ys at hcon
  simp [e0, e3, e4]
  refine ⟨fun h => ⟨s.list[i], List.getElem?_eq_getElem h, ?_⟩, fun h => ?_⟩
  · have hw := hz _ (List.getElem_mem h)
    have hget : s.list[i]? = some s.list[i] := List.getElem?_eq_getElem h
    have htk : (s.list.take (i + 1)).map TLine.con = (s.list.take i).map TLine.con ++ [s.list[i].con] := by rw [List.take_succ_eq_append_getElem h, List.map_append]; rfl
    generalize s.list[i] = x at hget hw htk
    simp [e0, e3, e4, h]
    refine ⟨_, hget, ?_⟩
    have m1 : x.Words.list.length * 8 ≤ 140737488355328 := by omega
    have m2 : x.Words.list.length ≤ mx := by unfold mx; omega
    have m3 : (i + 1) * 48 ≤ 140737488355328 := by omega
    have m4 : i + 1 ≤ mx := by unfold mx; omega
    simp [e0, e3, e4, h, m1, m2, m3, m4, hrl, putA, TLine.enc]
    refine hN _ _ (⟨false, c' + 1 + 1 + 1 + 1, 4, rowsX (ks ++ [((inns ys).length + 1 + 1, TLine.mk x.Seq x.Owner x.Version (.mk (c' + 1 + 1) x.Words.list))])⟩ :: inns ((ks ++ [((inns ys).length + 1 + 1, TLine.mk x.Seq x.Owner x.Version (.mk (c' + 1 + 1) x.Words.list))]).map (·.2))) _ h ?_
      ⟨by simp [upd, e0], by simp [upd]; exact step64 (by unfold mx; omega) h, c' + 1 + 1 + 1 + 1, _, by simp [upd], by simp [hy], ?_, rfl⟩
    · rw [List.map_append, inns_app, hys]
      have e1 : rowsX (ks ++ [((inns ys).length + 1 + 1, TLine.mk x.Seq x.Owner x.Version (.mk (c' + 1 + 1) x.Words.list))]) = rowsX ks ++ [[.int .i64 x.Seq, .int .i64 x.Owner, .int .i64 x.Version, .ref ((inns ys).length + 1 + 1) (c' + 1 + 1) 1 x.Words.list.length]] := by
        simp [rowsX, encX, SL.at_]
      rw [e1]
      refine List.Sublist.cons_cons _ (List.Sublist.append (List.Sublist.refl _) ?_)
      simp only [List.map_cons, List.map_nil, inns_one, TLine.inn, flat_wood]
      exact ((List.nil_sublist _).cons_cons _).cons _
    · rw [List.map_append, List.map_append, hys, hcon, htk]
      simp [TLine.con, SL.pcon]
  · have h1 : i = s.list.length := by omega
    subst h1
    refine fin_ren (List.Sublist.refl _) (.cons (renX t ks) (.refl _ _)) (.refl _) ⟨.mk t ys, ?_, ?_, ?_, t, rfl⟩
    · subst hys; simp [SL.ref, hy]
    · rw [wood_inns, hys]
    · simpa using hcon

theorem spec_copyO {s : SL TLine} (hn : s.list.length ≤ 1048576) (hz : ∀ x, x ∈ s.list → x.Words.list.length ≤ 1048576) (c : Nat) :
    Con Try.prog 32 [s.av 4 TLine.enc] [] c fun r O _ => ∃ b : SL TLine, r = b.ref 4 ∧ O = b.wood 4 TLine.encO TLine.inn ∧ b.list.map TLine.con = s.list.map TLine.con :=
  (spec_copyM hn hz c).mono fun r H' c' _ ⟨b, h1, h2, h3, _⟩ => ⟨b, h1, h2, h3⟩

/-- A line, recovered. -/
def recL (owner : Int) (x : TLine) : TLine := if x.Owner = owner then ⟨x.Seq + 1, 0, 0, .nil⟩ else x
theorem mixM_flat {f : TLine → TLine} {l : List TLine} {i : Nat} (h : i < l.length) : inns (mixM f l i) = inns ((l.take i).map f) ++ (l[i].inn ++ inns (l.drop (i + 1))) := by
  unfold mixM
  rw [List.drop_eq_getElem_cons h, inns_app, inns_cons]
theorem mixM_flat' {f : TLine → TLine} {l : List TLine} {i : Nat} (h : i < l.length) : inns (mixM f l (i + 1)) = inns ((l.take i).map f) ++ ((f l[i]).inn ++ inns (l.drop (i + 1))) := by
  unfold mixM
  rw [List.take_succ_eq_append_getElem h, List.map_append, inns_app, inns_app]
  simp [inns_one]

theorem spec_recoverO1 {l : List TLine} {owner : Int} (hn : l.length ≤ 1048576) (hz : ∀ x, x ∈ l → 0 ≤ x.Seq ∧ x.Seq ≤ 1000000000000000) (t c : Nat) :
    Con Try.prog 37 [.ref 0 t 4 l.length, .int .i64 owner] (⟨false, t, 4, l.map TLine.encO⟩ :: inns l) c fun r O _ => r = .tup [] ∧ O = ⟨false, t, 4, (l.map (recL owner)).map TLine.encO⟩ :: inns (l.map (recL owner)) := by
  refine con_of c37 (by simp [F37]) ?_
  unfold F37
  simp
  refine loop_drop l.length (fun i e H c' => e 0 = .ref 0 t 4 l.length ∧ e 1 = .int .i64 owner ∧ e 4 = .int .i64 i ∧ H = ⟨false, t, 4, (mixM (recL owner) l i).map TLine.encO⟩ :: inns (mixM (recL owner) l i)) ⟨rfl, rfl, rfl, by rw [mixM_zero]⟩ ?_
  intro i e H c' hi ⟨e0, e1, e4, hH⟩ N hN
  subst hH
  simp [e0, e1, e4]
  refine ⟨fun h => ?_, fun h => ?_⟩
  · have hget := mixM_get (recL owner) h
    have hset := mixM_set (recL owner) h
    have hsame := mixM_same (recL owner) h
    have hq := hz _ (List.getElem_mem h)
    have hf := mixM_flat (f := recL owner) h
    have hf' := mixM_flat' (f := recL owner) h
    generalize l[i] = x at hget hset hsame hq hf hf'
    have w1 : IntKind.i64.wrap (x.Seq + 1) = x.Seq + 1 := wrap64 (by omega) (by omega)
    refine ⟨h, x, hget, ?_⟩
    by_cases hw : x.Owner = owner
    · simp [e0, e1, e4, hw, h]
      refine ⟨x, hget, ?_⟩
      simp [putA, w1, h]
      refine ⟨x, hget, ?_⟩
      simp [e0, e1, e4]
      have hr : recL owner x = ⟨x.Seq + 1, 0, 0, .nil⟩ := by simp [recL, hw]
      refine hN _ _ (⟨false, t, 4, (mixM (recL owner) l (i + 1)).map TLine.encO⟩ :: inns (mixM (recL owner) l (i + 1))) _ h ?_ ⟨by simp [upd, e0], by simp [upd, e1], by simp [upd]; exact step64 (by unfold mx; omega) h, rfl⟩
      rw [hf, hf', ← hset, hr, List.map_set]
      refine List.Sublist.cons_cons _ (List.Sublist.append (List.Sublist.refl _) ?_)
      exact List.sublist_append_right _ _
    · simp [e0, e1, e4, hw, h]
      refine hN _ _ _ _ h (List.Sublist.refl _) ⟨by simp [upd, e0], by simp [upd, e1], by simp [upd]; exact step64 (by unfold mx; omega) h, ?_⟩
      rw [hsame (by simp [recL, hw])]
  · have h1 : i = l.length := by omega
    subst h1
    refine fin_all ⟨rfl, ?_⟩
    rw [mixM_all]
    simp

theorem impl_recoverO1 {l : List TLine} {owner : Int} (hn : l.length ≤ 1048576) (hz : ∀ x, x ∈ l → 0 ≤ x.Seq ∧ x.Seq ≤ 1000000000000000) (t c : Nat) :
    Con Try.prog 46 [.ref 0 t 4 l.length, .int .i64 owner] (⟨false, t, 4, l.map TLine.encO⟩ :: inns l) c fun r O _ => r = .tup [] ∧ O = ⟨false, t, 4, (l.map (recL owner)).map TLine.encO⟩ :: inns (l.map (recL owner)) := by
  refine con_of c46 (by simp [F46]) ?_
  unfold F46
  simp
  refine loop_drop l.length (fun i e H c' => e 0 = .ref 0 t 4 l.length ∧ e 1 = .int .i64 owner ∧ e 6 = .ref 0 t 4 l.length ∧ e 7 = .int .i64 l.length ∧ e 8 = .int .i64 i ∧ H = ⟨false, t, 4, (mixM (recL owner) l i).map TLine.encO⟩ :: inns (mixM (recL owner) l i)) ⟨rfl, rfl, rfl, rfl, rfl, by rw [mixM_zero]⟩ ?_
  intro i e H c' hi ⟨e0, e1, e6, e7, e8, hH⟩ N hN
  subst hH
  simp [e0, e1, e6, e7, e8]
  refine ⟨fun h => ?_, fun h => ?_⟩
  · have hget := mixM_get (recL owner) h
    have hset := mixM_set (recL owner) h
    have hsame := mixM_same (recL owner) h
    have hq := hz _ (List.getElem_mem h)
    have hf := mixM_flat (f := recL owner) h
    have hf' := mixM_flat' (f := recL owner) h
    generalize l[i] = x at hget hset hsame hq hf hf'
    have w1 : IntKind.i64.wrap (x.Seq + 1) = x.Seq + 1 := wrap64 (by omega) (by omega)
    have hx0 : x.encO.take 4 = x.encO := rfl
    refine ⟨h, x, hget, ?_⟩
    simp [TLine.lenO, hx0]
    by_cases hw : x.Owner = owner
    · simp [e0, e1, e6, e7, e8, hw, h, putA, w1]
      refine ⟨x, hget, ?_⟩
      simp [putA, w1, h, e0, e1, e6, e7, e8, TLine.lenO]
      have hr : recL owner x = ⟨x.Seq + 1, 0, 0, .nil⟩ := by simp [recL, hw]
      refine hN _ _ (⟨false, t, 4, (mixM (recL owner) l (i + 1)).map TLine.encO⟩ :: inns (mixM (recL owner) l (i + 1))) _ h ?_ ⟨by simp [upd, e0], by simp [upd, e1], by simp [upd, e6], by simp [upd, e7], by simp [upd]; exact step64 (by unfold mx; omega) h, rfl⟩
      rw [hf, hf', ← hset, hr, List.map_set]
      refine List.Sublist.cons_cons _ ?_
      simp only [List.append_assoc]
      refine List.Sublist.append (List.Sublist.refl _) ?_
      exact (List.sublist_append_left _ _).trans (List.sublist_append_right _ _)
    · simp [e0, e1, e6, e7, e8, hw, h]
      refine hN _ _ _ _ h ?_ ⟨by simp [upd, e0], by simp [upd, e1], by simp [upd, e6], by simp [upd, e7], by simp [upd]; exact step64 (by unfold mx; omega) h, rfl⟩
      rw [hsame (by simp [recL, hw])]
      exact List.Sublist.cons_cons _ (List.sublist_append_left _ _)
  · have h1 : i = l.length := by omega
    subst h1
    refine fin_all ⟨rfl, ?_⟩
    rw [mixM_all]
    simp

theorem spec_recoverO {s : SL TLine} {owner : Int} (hn : s.list.length ≤ 1048576) (hz : ∀ x, x ∈ s.list → 0 ≤ x.Seq ∧ x.Seq ≤ 1000000000000000) (c : Nat) :
    Con Try.prog 37 [s.ref 4, .int .i64 owner] (s.wood 4 TLine.encO TLine.inn) c fun r O _ => r = .tup [] ∧ O = (s.lmap (·.map (recL owner))).wood 4 TLine.encO TLine.inn := by
  cases s with
  | mk t l => exact spec_recoverO1 (l := l) hn hz t c
  | nil =>
    refine con_of c37 (by simp [F37]) ?_
    unfold F37
    simp [ref_nil]
    refine loop_drop 0 (fun i e H c' => e 0 = .nsl ∧ e 4 = .int .i64 0 ∧ H = []) ⟨rfl, rfl, rfl⟩ ?_
    intro i e H c' hi ⟨e0, e4, hH⟩ N hN
    subst hH
    simp [e0, e4]
    exact fin_all ⟨rfl, rfl⟩
theorem impl_recoverO {s : SL TLine} {owner : Int} (hn : s.list.length ≤ 1048576) (hz : ∀ x, x ∈ s.list → 0 ≤ x.Seq ∧ x.Seq ≤ 1000000000000000) (c : Nat) :
    Con Try.prog 46 [s.ref 4, .int .i64 owner] (s.wood 4 TLine.encO TLine.inn) c fun r O _ => r = .tup [] ∧ O = (s.lmap (·.map (recL owner))).wood 4 TLine.encO TLine.inn := by
  cases s with
  | mk t l => exact impl_recoverO1 (l := l) hn hz t c
  | nil =>
    refine con_of c46 (by simp [F46]) ?_
    unfold F46
    simp [ref_nil]
    refine loop_drop 0 (fun i e H c' => e 7 = .int .i64 0 ∧ e 8 = .int .i64 0 ∧ H = []) ⟨rfl, rfl, rfl⟩ ?_
    intro i e H c' hi ⟨e7, e8, hH⟩ N hN
    subst hH
    simp [e7, e8]
    exact fin_all ⟨rfl, rfl⟩

theorem areLines_seq {l : List TLine} (h : areLines l = true) : ∀ x, x ∈ l → 0 ≤ x.Seq ∧ x.Seq ≤ 1000000000000 := fun x hx => by
  unfold areLines at h
  simp only [Bool.and_eq_true, List.all_eq_true] at h
  have := h.1 x hx
  unfold lineOk at this
  simp only [Bool.and_eq_true] at this
  exact inR_true this.1.1.1.1
/-- The objects stand in no order, and some may be let go. -/
theorem con_perm {P : Program} {f : Nat} {args : List AV} {H : List AObj} {c : Nat} {Q Q' : AV → List AObj → Nat → Prop} (h : Con P f args H c Q) (hq : ∀ r H' c', Q r H' c' → ∃ Hs H2, Hs.Sublist H' ∧ H2.Perm Hs ∧ Q' r H2 c') : Con P f args H c Q' := by
  intro G w vs e I hs hr
  refine (h G w vs e I hs hr).mono fun en w' ⟨v, res, H', G', h1, h2, h3, h4, h5⟩ => ?_
  obtain ⟨Hs, H2, hsub, hp, q⟩ := hq _ _ _ h2
  have h3 := h3.drop hsub
  have h4 := h4.drop hsub
  have ht : ∀ t, t ∈ tags H2 ↔ t ∈ tags Hs := fun t => (hp.map _).mem_iff
  refine ⟨v, res, H2, G', h1, q, ⟨h3.x, h3.os, h3.tape, h3.output, h3.size, h3.frame, h3.newm, fun t a b => h3.oldH t a ((ht t).1 b), h3.oldF⟩, ⟨h4.fz, fun o ho => h4.obj o (hp.mem_iff.1 ho), fun t a => h4.nfz t ((ht t).1 a), (hp.map _).nodup_iff.2 h4.nodup, fun t t' a b => h4.inj t t' (a.imp id (ht t).1) (b.imp id (ht t').1)⟩, h5⟩

theorem renSet {t w i : Nat} {rows : List (List AV)} {row row' : List AV} (hl : row'.length = row.length) (h : ∀ (j : Nat) (a a' : AV), row[j]? = some a → row'[j]? = some a' → a' = a ∨ (a'.cell = true ∧ View [] a a')) :
    RenO [] ⟨false, t, w, rows.set i row⟩ ⟨false, t, w, rows.set i row'⟩ where
  mp := rfl
  tag := rfl
  w := rfl
  len := by simp
  maps h := by cases h
  row r x x' h1 h2 := by
    by_cases hr : i = r
    · subst hr
      rw [List.getElem?_set_self'] at h1 h2
      simp only [Option.map_eq_map, Option.map_eq_some_iff, Function.const] at h1 h2
      obtain ⟨_, _, rfl⟩ := h1
      obtain ⟨_, _, rfl⟩ := h2
      exact ⟨hl, h⟩
    · rw [List.getElem?_set_ne hr] at h1 h2
      rw [h1] at h2; cases h2
      exact ⟨rfl, fun j a a' h3 h4 => by rw [h3] at h4; cases h4; exact .inl rfl⟩

theorem inns_at {l : List TLine} {i : Nat} (h : i < l.length) : inns l = inns (l.take i) ++ (l[i].inn ++ inns (l.drop (i + 1))) := by
  rw [← inns_cons, ← List.drop_eq_getElem_cons h, ← inns_app, List.take_append_drop]
theorem inns_set {l : List TLine} {i : Nat} (h : i < l.length) (z : TLine) : inns (l.set i z) = inns (l.take i) ++ (z.inn ++ inns (l.drop (i + 1))) := by
  rw [List.set_eq_take_append_cons_drop, if_pos h, inns_app, inns_cons]

end A
end Go.Proofs.Ytfcimcoanlgldaa
