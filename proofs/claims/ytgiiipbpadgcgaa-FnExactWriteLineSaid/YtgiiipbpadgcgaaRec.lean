/-
  Recover of the reference and of the program are the same plain function. No condition.
-/
import Derived.Test.YtgiiipbpadgcgaaLines
import Derived.Test.YtgiiipbpadgcgaaMLine
namespace Go.Proofs.Ytgiiipbpadgcgaa
namespace A
set_option linter.unusedVariables false
set_option linter.unusedSimpArgs false
set_option maxRecDepth 100000

def inns (l : List TLine) : List AObj := l.flatMap TLine.inn
theorem wood_inns (t : Nat) (l : List TLine) : (SL.mk t l).wood 4 TLine.encO TLine.inn = ⟨false, t, 4, l.map TLine.encO⟩ :: inns l := rfl
theorem inns_app (l m : List TLine) : inns (l ++ m) = inns l ++ inns m := List.flatMap_append ..
theorem inns_one (x : TLine) : inns [x] = x.inn := by simp [inns]
theorem inns_cons (x : TLine) (l : List TLine) : inns (x :: l) = x.inn ++ inns l := List.flatMap_cons ..

theorem av_words (s : SL Int) : Av [] (s.av 1 encI) := by
  cases s with
  | nil => exact .nsl
  | mk t l =>
    exact .slc (by simp) fun r j x a hx ha => by
      obtain ⟨n, _, rfl⟩ := List.mem_map.1 (List.mem_of_getElem? hx)
      have := List.mem_of_getElem? ha
      simp [encI] at this; subst this; exact .int
theorem av_line (x : TLine) : ∀ a, a ∈ x.enc → Av [] a := fun a ha => by
  simp [TLine.enc] at ha
  rcases ha with rfl | rfl | rfl | rfl
  · exact .int
  · exact .int
  · exact .int
  · exact av_words _

/-- Copied so far: new lines, then the old ones. -/
def cpRows (ys l : List TLine) (i : Nat) : List (List AV) := ys.map TLine.encO ++ (l.drop i).map TLine.enc
theorem cpRows_len {ys l : List TLine} {i : Nat} (h : ys.length = i) (hi : i ≤ l.length) : (cpRows ys l i).length = l.length := by simp [cpRows, h]; omega
theorem cpRows_get {ys l : List TLine} {i : Nat} (h : ys.length = i) (hi : i < l.length) : (cpRows ys l i)[i]? = some l[i].enc := by
  unfold cpRows
  rw [List.getElem?_append_right (by simp; omega), List.length_map, h, Nat.sub_self, List.drop_eq_getElem_cons hi]; rfl
theorem cpRows_set {ys l : List TLine} {i : Nat} (h : ys.length = i) (hi : i < l.length) (y : TLine) : (cpRows ys l i).set i y.encO = cpRows (ys ++ [y]) l (i + 1) := by
  unfold cpRows
  rw [List.set_append_right _ _ (by simp; omega), List.length_map, h, Nat.sub_self, List.drop_eq_getElem_cons hi, List.map_cons, List.set_cons_zero]
  simp
theorem cpRows_zero (l : List TLine) : cpRows [] l 0 = l.map TLine.enc := by simp [cpRows]
theorem cpRows_all {ys l : List TLine} : cpRows ys l l.length = ys.map TLine.encO := by simp [cpRows]

theorem impl_copyO {s : SL TLine} (hn : s.list.length ≤ 1048576) (hz : ∀ x, x ∈ s.list → x.Words.list.length ≤ 1048576) (c : Nat) :
    Con Try.prog 101 [s.av 4 TLine.enc] [] c fun r O _ => ∃ b : SL TLine, r = b.ref 4 ∧ O = b.wood 4 TLine.encO TLine.inn ∧ b.list.map TLine.con = s.list.map TLine.con := by
  refine con_of c101 (by simp [F101]) ?_
  unfold F101
  simp
  refine call_new (clone_con (b := 48) (z := [.int .i64 0, .int .i64 0, .int .i64 0, .nsl]) c137 (by omega) (by unfold mx; omega) _) (Views.refl _ _) fun r O c1 hc ⟨x, hr, hO, hx⟩ _ _ => ?_
  subst hr
  refine ⟨_, .refl _, free_ref _ _ _, fun o ho => ?_, ?_⟩
  · subst hO
    cases x with
    | nil => cases ho
    | mk t l =>
      rw [flat_wood] at ho
      simp only [List.mem_singleton] at ho
      subst ho
      exact avRows_of fun row hr a ha => by
        obtain ⟨y, _, rfl⟩ := List.mem_map.1 hr
        exact av_line y a ha
  simp
  cases x with
  | nil =>
    have h0 : s.list = [] := hx.symm
    have hO' : O = [] := hO
    subst hO'
    refine loop_drop 0 (fun i e H c' => e 3 = .nsl ∧ e 9 = .int .i64 0 ∧ e 10 = .int .i64 0 ∧ H = []) ⟨rfl, by simp [h0], rfl, rfl⟩ ?_
    intro i e H c' hi ⟨e3, e9, e10, hH⟩ N hN
    subst hH
    simp [e3, e9, e10]
    exact fin_all ⟨.nil, rfl, rfl, by simp [h0]⟩
  | mk t l =>
    simp only [SL.list_mk] at hx
    subst hx
    rw [flat_wood] at hO
    subst hO
    refine loop_drop s.list.length (fun i e H c' => e 3 = .ref 0 t 4 s.list.length ∧ e 8 = s.av 4 TLine.enc ∧ e 9 = .int .i64 s.list.length ∧ e 10 = .int .i64 i ∧ ∃ ys : List TLine, ys.length = i ∧ ys.map TLine.con = (s.list.take i).map TLine.con ∧ H = ⟨false, t, 4, cpRows ys s.list i⟩ :: inns ys) ⟨rfl, rfl, rfl, rfl, [], rfl, rfl, by rw [cpRows_zero]; rfl⟩ ?_
    intro i e H c' hi ⟨e3, e8, e9, e10, ys, hy, hcon, hH⟩ N hN
    subst hH
    simp [e3, e8, e9, e10]
    refine ⟨fun h => ⟨s.list[i], List.getElem?_eq_getElem h, ?_⟩, fun h => ?_⟩
    · have hlen := cpRows_len hy hi
      have hget := cpRows_get hy h
      have hset := cpRows_set hy h
      have hw := hz _ (List.getElem_mem h)
      have htk : (s.list.take (i + 1)).map TLine.con = (s.list.take i).map TLine.con ++ [s.list[i].con] := by rw [List.take_succ_eq_append_getElem h, List.map_append]; rfl
      generalize s.list[i] = x at hget hset hw htk
      simp [e3, e8, e9, e10, h]
      refine call_new (cloneIO hw _) (Views.refl _ _) fun r O c2 hc2 ⟨w, hr, hO, hwl⟩ _ _ => ?_
      subst hr; subst hO
      refine ⟨_, .refl _, free_ref _ _ _, fun o ho => flat_free encI_flat _ _ o ho _, ?_⟩
      simp [e3, e8, e9, e10, h]
      refine ⟨_, hget, ?_⟩
      simp [hlen, putA, TLine.enc]
      refine hN _ _ (⟨false, t, 4, cpRows (ys ++ [⟨x.Seq, x.Owner, x.Version, w⟩]) s.list (i + 1)⟩ :: inns (ys ++ [⟨x.Seq, x.Owner, x.Version, w⟩])) _ h ?_ ⟨by simp [upd, e3], by simp [upd, e8], by simp [upd, e9], by simp [upd]; exact step64 (by unfold mx; omega) h, ys ++ [⟨x.Seq, x.Owner, x.Version, w⟩], by simp [hy], ?_, rfl⟩
      · rw [inns_app, inns_one, ← hset]
        exact (List.Sublist.append (List.Sublist.refl _) ((List.Sublist.refl _).cons _)).cons_cons _
      · rw [List.map_append, hcon, htk]
        simp [TLine.con, SL.pcon, hwl]
    · have h1 : i = s.list.length := by omega
      subst h1
      refine fin_all ⟨.mk t ys, by simp [SL.ref, hy], by rw [wood_inns, cpRows_all], ?_⟩
      simpa using hcon

/-- Rows whose inner slices are named by their places. -/
def encX (k : Nat) (x : TLine) : List AV := [.int .i64 x.Seq, .int .i64 x.Owner, .int .i64 x.Version, x.Words.at_ k 1]
def rowsX (ks : List (Nat × TLine)) : List (List AV) := ks.map fun p => encX p.1 p.2
theorem renX (t : Nat) (ks : List (Nat × TLine)) : RenO [] ⟨false, t, 4, rowsX ks⟩ ⟨false, t, 4, (ks.map (·.2)).map TLine.encO⟩ where
  mp := rfl
  tag := rfl
  w := rfl
  len := by simp [rowsX]
  maps h := by cases h
  row r x x' h1 h2 := by
    simp only [rowsX, List.getElem?_map, Option.map_eq_some_iff] at h1 h2
    obtain ⟨p, hp, rfl⟩ := h1
    obtain ⟨y, ⟨q, hq, rfl⟩, rfl⟩ := h2
    rw [hp] at hq; cases hq
    refine ⟨rfl, fun j a a' h3 h4 => ?_⟩
    match j, h3, h4 with
    | 0, h3, h4 => simp [encX] at h3; simp [TLine.encO] at h4; exact .inl (by rw [← h3, ← h4])
    | 1, h3, h4 => simp [encX] at h3; simp [TLine.encO] at h4; exact .inl (by rw [← h3, ← h4])
    | 2, h3, h4 => simp [encX] at h3; simp [TLine.encO] at h4; exact .inl (by rw [← h3, ← h4])
    | 3, h3, h4 =>
      simp [encX] at h3; simp [TLine.encO] at h4
      subst h3; subst h4
      exact .inr ⟨cell_ref _ _, view_at' _ _ _ _⟩
    | j + 4, h3, h4 => simp [encX] at h3

theorem spec_copyO {s : SL TLine} (hn : s.list.length ≤ 1048576) (hz : ∀ x, x ∈ s.list → x.Words.list.length ≤ 1048576) (c : Nat) :
    Con Try.prog 100 [s.av 4 TLine.enc] [] c fun r O _ => ∃ b : SL TLine, r = b.ref 4 ∧ O = b.wood 4 TLine.encO TLine.inn ∧ b.list.map TLine.con = s.list.map TLine.con := by
  refine con_of c100 (by simp [F100]) ?_
  unfold F100
  simp
  refine loop_drop s.list.length (fun i e H c' => e 0 = s.av 4 TLine.enc ∧ e 4 = .int .i64 i ∧ ∃ (t : Nat) (ks : List (Nat × TLine)), e 3 = .ref 0 t 4 i ∧ ks.length = i ∧ (ks.map (·.2)).map TLine.con = (s.list.take i).map TLine.con ∧ H = ⟨false, t, 4, rowsX ks⟩ :: inns (ks.map (·.2))) ⟨rfl, rfl, _, [], rfl, rfl, rfl, rfl⟩ ?_
  intro i e H c' hi ⟨e0, e4, t, ks, e3, hy, hcon, hH⟩ N hN
  subst hH
  have hrl : (rowsX ks).length = i := by simp [rowsX, hy]
  generalize hys : ks.map (·.2) = ys at hcon
  simp [e0, e3, e4]
  refine ⟨fun h => ⟨s.list[i], List.getElem?_eq_getElem h, ?_⟩, fun h => ?_⟩
  · have hw := hz _ (List.getElem_mem h)
    have hget : s.list[i]? = some s.list[i] := List.getElem?_eq_getElem h
    have htk : (s.list.take (i + 1)).map TLine.con = (s.list.take i).map TLine.con ++ [s.list[i].con] := by rw [List.take_succ_eq_append_getElem h, List.map_append]; rfl
    generalize s.list[i] = x at hget hw htk
    simp [e0, e3, e4, h]
    refine ⟨_, hget, ?_⟩
    have m1 : x.Words.list.length * 8 ≤ 140737488355328 := by omega
    have m2 : x.Words.list.length ≤ mx := by unfold mx; omega
    have m3 : (i + 1) * 48 ≤ 140737488355328 := by omega
    have m4 : i + 1 ≤ mx := by unfold mx; omega
    simp [e0, e3, e4, h, m1, m2, m3, m4, hrl, putA, TLine.enc]
    refine hN _ _ (⟨false, c' + 1 + 1 + 1 + 1, 4, rowsX (ks ++ [((inns ys).length + 1 + 1, TLine.mk x.Seq x.Owner x.Version (.mk (c' + 1 + 1) x.Words.list))])⟩ :: inns ((ks ++ [((inns ys).length + 1 + 1, TLine.mk x.Seq x.Owner x.Version (.mk (c' + 1 + 1) x.Words.list))]).map (·.2))) _ h ?_
      ⟨by simp [upd, e0], by simp [upd]; exact step64 (by unfold mx; omega) h, c' + 1 + 1 + 1 + 1, _, by simp [upd], by simp [hy], ?_, rfl⟩
    · rw [List.map_append, inns_app, hys]
      have e1 : rowsX (ks ++ [((inns ys).length + 1 + 1, TLine.mk x.Seq x.Owner x.Version (.mk (c' + 1 + 1) x.Words.list))]) = rowsX ks ++ [[.int .i64 x.Seq, .int .i64 x.Owner, .int .i64 x.Version, .ref ((inns ys).length + 1 + 1) (c' + 1 + 1) 1 x.Words.list.length]] := by
        simp [rowsX, encX, SL.at_]
      rw [e1]
      refine List.Sublist.cons_cons _ (List.Sublist.append (List.Sublist.refl _) ?_)
      simp only [List.map_cons, List.map_nil, inns_one, TLine.inn, flat_wood]
      exact ((List.nil_sublist _).cons_cons _).cons _
    · rw [List.map_append, List.map_append, hys, hcon, htk]
      simp [TLine.con, SL.pcon]
  · have h1 : i = s.list.length := by omega
    subst h1
    refine fin_ren (List.Sublist.refl _) (.cons (renX t ks) (.refl _ _)) (.refl _) ⟨.mk t ys, ?_, ?_, ?_⟩
    · subst hys; simp [SL.ref, hy]
    · rw [wood_inns, hys]
    · simpa using hcon

/-- A line, recovered. -/
def recL (owner : Int) (x : TLine) : TLine := if x.Owner = owner then ⟨x.Seq + 1, 0, 0, .nil⟩ else x
theorem mixM_flat {f : TLine → TLine} {l : List TLine} {i : Nat} (h : i < l.length) : inns (mixM f l i) = inns ((l.take i).map f) ++ (l[i].inn ++ inns (l.drop (i + 1))) := by
  unfold mixM
  rw [List.drop_eq_getElem_cons h, inns_app, inns_cons]
theorem mixM_flat' {f : TLine → TLine} {l : List TLine} {i : Nat} (h : i < l.length) : inns (mixM f l (i + 1)) = inns ((l.take i).map f) ++ ((f l[i]).inn ++ inns (l.drop (i + 1))) := by
  unfold mixM
  rw [List.take_succ_eq_append_getElem h, List.map_append, inns_app, inns_app]
  simp [inns_one]

theorem spec_recoverO1 {l : List TLine} {owner : Int} (hn : l.length ≤ 1048576) (hz : ∀ x, x ∈ l → 0 ≤ x.Seq ∧ x.Seq ≤ 1000000000000) (t c : Nat) :
    Con Try.prog 102 [.ref 0 t 4 l.length, .int .i64 owner] (⟨false, t, 4, l.map TLine.encO⟩ :: inns l) c fun r O _ => r = .tup [] ∧ O = ⟨false, t, 4, (l.map (recL owner)).map TLine.encO⟩ :: inns (l.map (recL owner)) := by
  refine con_of c102 (by simp [F102]) ?_
  unfold F102
  simp
  refine loop_drop l.length (fun i e H c' => e 0 = .ref 0 t 4 l.length ∧ e 1 = .int .i64 owner ∧ e 4 = .int .i64 i ∧ H = ⟨false, t, 4, (mixM (recL owner) l i).map TLine.encO⟩ :: inns (mixM (recL owner) l i)) ⟨rfl, rfl, rfl, by rw [mixM_zero]⟩ ?_
  intro i e H c' hi ⟨e0, e1, e4, hH⟩ N hN
  subst hH
  simp [e0, e1, e4]
  refine ⟨fun h => ?_, fun h => ?_⟩
  · have hget := mixM_get (recL owner) h
    have hset := mixM_set (recL owner) h
    have hsame := mixM_same (recL owner) h
    have hq := hz _ (List.getElem_mem h)
    have hf := mixM_flat (f := recL owner) h
    have hf' := mixM_flat' (f := recL owner) h
    generalize l[i] = x at hget hset hsame hq hf hf'
    have w1 : IntKind.i64.wrap (x.Seq + 1) = x.Seq + 1 := wrap64 (by omega) (by omega)
    refine ⟨h, x, hget, ?_⟩
    by_cases hw : x.Owner = owner
    · simp [e0, e1, e4, hw, h]
      refine ⟨x, hget, ?_⟩
      simp [putA, w1, h]
      refine ⟨x, hget, ?_⟩
      simp [e0, e1, e4]
      have hr : recL owner x = ⟨x.Seq + 1, 0, 0, .nil⟩ := by simp [recL, hw]
      refine hN _ _ (⟨false, t, 4, (mixM (recL owner) l (i + 1)).map TLine.encO⟩ :: inns (mixM (recL owner) l (i + 1))) _ h ?_ ⟨by simp [upd, e0], by simp [upd, e1], by simp [upd]; exact step64 (by unfold mx; omega) h, rfl⟩
      rw [hf, hf', ← hset, hr, List.map_set]
      refine List.Sublist.cons_cons _ (List.Sublist.append (List.Sublist.refl _) ?_)
      exact List.sublist_append_right _ _
    · simp [e0, e1, e4, hw, h]
      refine hN _ _ _ _ h (List.Sublist.refl _) ⟨by simp [upd, e0], by simp [upd, e1], by simp [upd]; exact step64 (by unfold mx; omega) h, ?_⟩
      rw [hsame (by simp [recL, hw])]
  · have h1 : i = l.length := by omega
    subst h1
    refine fin_all ⟨rfl, ?_⟩
    rw [mixM_all]
    simp

theorem impl_recoverO1 {l : List TLine} {owner : Int} (hn : l.length ≤ 1048576) (hz : ∀ x, x ∈ l → 0 ≤ x.Seq ∧ x.Seq ≤ 1000000000000) (t c : Nat) :
    Con Try.prog 103 [.ref 0 t 4 l.length, .int .i64 owner] (⟨false, t, 4, l.map TLine.encO⟩ :: inns l) c fun r O _ => r = .tup [] ∧ O = ⟨false, t, 4, (l.map (recL owner)).map TLine.encO⟩ :: inns (l.map (recL owner)) := by
  refine con_of c103 (by simp [F103]) ?_
  unfold F103
  simp
  refine loop_drop l.length (fun i e H c' => e 0 = .ref 0 t 4 l.length ∧ e 1 = .int .i64 owner ∧ e 6 = .ref 0 t 4 l.length ∧ e 7 = .int .i64 l.length ∧ e 8 = .int .i64 i ∧ H = ⟨false, t, 4, (mixM (recL owner) l i).map TLine.encO⟩ :: inns (mixM (recL owner) l i)) ⟨rfl, rfl, rfl, rfl, rfl, by rw [mixM_zero]⟩ ?_
  intro i e H c' hi ⟨e0, e1, e6, e7, e8, hH⟩ N hN
  subst hH
  simp [e0, e1, e6, e7, e8]
  refine ⟨fun h => ?_, fun h => ?_⟩
  · have hget := mixM_get (recL owner) h
    have hset := mixM_set (recL owner) h
    have hsame := mixM_same (recL owner) h
    have hq := hz _ (List.getElem_mem h)
    have hf := mixM_flat (f := recL owner) h
    have hf' := mixM_flat' (f := recL owner) h
    generalize l[i] = x at hget hset hsame hq hf hf'
    have w1 : IntKind.i64.wrap (x.Seq + 1) = x.Seq + 1 := wrap64 (by omega) (by omega)
    have hx0 : x.encO.take 4 = x.encO := rfl
    refine ⟨h, x, hget, ?_⟩
    simp [TLine.lenO, hx0]
    by_cases hw : x.Owner = owner
    · simp [e0, e1, e6, e7, e8, hw, h, putA, w1]
      refine ⟨x, hget, ?_⟩
      simp [putA, w1, h, e0, e1, e6, e7, e8, TLine.lenO]
      have hr : recL owner x = ⟨x.Seq + 1, 0, 0, .nil⟩ := by simp [recL, hw]
      refine hN _ _ (⟨false, t, 4, (mixM (recL owner) l (i + 1)).map TLine.encO⟩ :: inns (mixM (recL owner) l (i + 1))) _ h ?_ ⟨by simp [upd, e0], by simp [upd, e1], by simp [upd, e6], by simp [upd, e7], by simp [upd]; exact step64 (by unfold mx; omega) h, rfl⟩
      rw [hf, hf', ← hset, hr, List.map_set]
      refine List.Sublist.cons_cons _ ?_
      simp only [List.append_assoc]
      refine List.Sublist.append (List.Sublist.refl _) ?_
      exact (List.sublist_append_left _ _).trans (List.sublist_append_right _ _)
    · simp [e0, e1, e6, e7, e8, hw, h]
      refine hN _ _ _ _ h ?_ ⟨by simp [upd, e0], by simp [upd, e1], by simp [upd, e6], by simp [upd, e7], by simp [upd]; exact step64 (by unfold mx; omega) h, rfl⟩
      rw [hsame (by simp [recL, hw])]
      exact List.Sublist.cons_cons _ (List.sublist_append_left _ _)
  · have h1 : i = l.length := by omega
    subst h1
    refine fin_all ⟨rfl, ?_⟩
    rw [mixM_all]
    simp

theorem spec_recoverO {s : SL TLine} {owner : Int} (hn : s.list.length ≤ 1048576) (hz : ∀ x, x ∈ s.list → 0 ≤ x.Seq ∧ x.Seq ≤ 1000000000000) (c : Nat) :
    Con Try.prog 102 [s.ref 4, .int .i64 owner] (s.wood 4 TLine.encO TLine.inn) c fun r O _ => r = .tup [] ∧ O = (s.lmap (·.map (recL owner))).wood 4 TLine.encO TLine.inn := by
  cases s with
  | mk t l => exact spec_recoverO1 (l := l) hn hz t c
  | nil =>
    refine con_of c102 (by simp [F102]) ?_
    unfold F102
    simp [ref_nil]
    refine loop_drop 0 (fun i e H c' => e 0 = .nsl ∧ e 4 = .int .i64 0 ∧ H = []) ⟨rfl, rfl, rfl⟩ ?_
    intro i e H c' hi ⟨e0, e4, hH⟩ N hN
    subst hH
    simp [e0, e4]
    exact fin_all ⟨rfl, rfl⟩
theorem impl_recoverO {s : SL TLine} {owner : Int} (hn : s.list.length ≤ 1048576) (hz : ∀ x, x ∈ s.list → 0 ≤ x.Seq ∧ x.Seq ≤ 1000000000000) (c : Nat) :
    Con Try.prog 103 [s.ref 4, .int .i64 owner] (s.wood 4 TLine.encO TLine.inn) c fun r O _ => r = .tup [] ∧ O = (s.lmap (·.map (recL owner))).wood 4 TLine.encO TLine.inn := by
  cases s with
  | mk t l => exact impl_recoverO1 (l := l) hn hz t c
  | nil =>
    refine con_of c103 (by simp [F103]) ?_
    unfold F103
    simp [ref_nil]
    refine loop_drop 0 (fun i e H c' => e 7 = .int .i64 0 ∧ e 8 = .int .i64 0 ∧ H = []) ⟨rfl, rfl, rfl⟩ ?_
    intro i e H c' hi ⟨e7, e8, hH⟩ N hN
    subst hH
    simp [e7, e8]
    exact fin_all ⟨rfl, rfl⟩

/-- All lines, recovered. -/
def recover (owner : Int) (l : List TLine) : List TLine := if areLines l && decide (1 ≤ owner) then l.map (recL owner) else l
theorem areLines_seq {l : List TLine} (h : areLines l = true) : ∀ x, x ∈ l → 0 ≤ x.Seq ∧ x.Seq ≤ 1000000000000 := fun x hx => by
  unfold areLines at h
  simp only [Bool.and_eq_true, List.all_eq_true] at h
  have := h.1 x hx
  unfold lineOk at this
  simp only [Bool.and_eq_true] at this
  exact inR_true this.1.1.1.1
theorem areLines_con' {l m : List TLine} (h : l.map TLine.con = m.map TLine.con) : areLines l = areLines m := by
  have e : ∀ l : List TLine, areLines l = areLines (l.map TLine.con) := fun l => by
    unfold areLines
    rw [List.all_map, List.length_map]
    rfl
  rw [e, e m, h]
theorem recL_con (owner : Int) (x : TLine) : (recL owner x).con = (recL owner x.con).con := by
  unfold recL
  have : x.con.Owner = x.Owner := rfl
  rw [this]
  split <;> rfl
theorem recover_con {owner : Int} {l m : List TLine} (h : l.map TLine.con = m.map TLine.con) : (recover owner l).map TLine.con = (recover owner m).map TLine.con := by
  unfold recover
  rw [areLines_con' h]
  split
  · have e : ∀ l : List TLine, (l.map (recL owner)).map TLine.con = ((l.map TLine.con).map (recL owner)).map TLine.con := fun l => by
      rw [List.map_map, List.map_map, List.map_map]
      exact List.map_congr_left fun x _ => recL_con owner x
    rw [e, e m, h]
  · exact h

theorem spec_recO {s : SL TLine} {owner : Int} (hn : s.list.length ≤ 1048576) (hz : ∀ x, x ∈ s.list → x.Words.list.length ≤ 1048576) (c : Nat) :
    Con Try.prog 54 [s.av 4 TLine.enc, .int .i64 owner] [] c fun r O _ => ∃ b : SL TLine, r = b.ref 4 ∧ O = b.wood 4 TLine.encO TLine.inn ∧ b.list.map TLine.con = (recover owner s.list).map TLine.con := by
  refine con_of c54 (by simp [F54]) ?_
  unfold F54
  simp
  refine call_new (spec_copyO hn hz _) (Views.refl _ _) fun r O c1 hc ⟨b, hr, hO, hb⟩ _ _ => ?_
  subst hr; subst hO
  refine ⟨_, .refl _, free_ref _ _ _, fun o ho => free_wood TLine.freeO TLine.freeI _ o ho _, ?_⟩
  simp
  refine call_fn (spec_areLines (by unfold mx; omega)) (Views.refl _ _) .bool fun _ _ => ?_
  cases h1 : areLines s.list
  · simp
    exact fin_all ⟨b, rfl, rfl, by simp [recover, h1, hb]⟩
  by_cases h2 : 0 < owner
  rotate_left
  · simp [h2]
    exact fin_all ⟨b, rfl, rfl, by rw [hb]; unfold recover; rw [if_neg (by simp; intros; omega)]⟩
  simp [h2]
  have hbl : b.list.length = s.list.length := by simpa using congrArg List.length hb
  refine call_con (spec_recoverO (s := b) (owner := owner) (by omega) (areLines_seq (by rw [areLines_con' hb]; exact h1)) _) fun r H' c' _ ⟨q1, q2⟩ _ _ => ?_
  subst q1; subst q2
  refine ⟨.tup (by simp), fun o ho => free_wood TLine.freeO TLine.freeI _ o ho _, ?_⟩
  simp
  refine fin_all ⟨b.lmap (·.map (recL owner)), ?_, rfl, ?_⟩
  · cases b <;> simp [SL.lmap, SL.ref]
  · rw [SL.lmap_list (by simp)]
    have := recover_con (owner := owner) hb
    unfold recover at this ⊢
    rw [areLines_con' hb, h1] at this
    have h2' : (1 : Int) ≤ owner := by omega
    simp only [h2', decide_true, Bool.and_self, if_true] at this
    simp only [h1, h2', decide_true, Bool.and_self, if_true]
    exact this
theorem impl_recO {s : SL TLine} {owner : Int} (hn : s.list.length ≤ 1048576) (hz : ∀ x, x ∈ s.list → x.Words.list.length ≤ 1048576) (c : Nat) :
    Con Try.prog 55 [s.av 4 TLine.enc, .int .i64 owner] [] c fun r O _ => ∃ b : SL TLine, r = b.ref 4 ∧ O = b.wood 4 TLine.encO TLine.inn ∧ b.list.map TLine.con = (recover owner s.list).map TLine.con := by
  refine con_of c55 (by simp [F55]) ?_
  unfold F55
  simp
  refine call_new (impl_copyO hn hz _) (Views.refl _ _) fun r O c1 hc ⟨b, hr, hO, hb⟩ _ _ => ?_
  subst hr; subst hO
  refine ⟨_, .refl _, free_ref _ _ _, fun o ho => free_wood TLine.freeO TLine.freeI _ o ho _, ?_⟩
  simp
  refine call_fn (impl_areLines (by unfold mx; omega)) (Views.refl _ _) .bool fun _ _ => ?_
  cases h1 : areLines s.list
  · simp
    exact fin_all ⟨b, rfl, rfl, by simp [recover, h1, hb]⟩
  by_cases h2 : 1 ≤ owner
  rotate_left
  · simp [h2]
    exact fin_all ⟨b, rfl, rfl, by rw [hb]; unfold recover; rw [if_neg (by simp; intros; omega)]⟩
  simp [h2]
  have hbl : b.list.length = s.list.length := by simpa using congrArg List.length hb
  refine call_con (impl_recoverO (s := b) (owner := owner) (by omega) (areLines_seq (by rw [areLines_con' hb]; exact h1)) _) fun r H' c' _ ⟨q1, q2⟩ _ _ => ?_
  subst q1; subst q2
  refine ⟨.tup (by simp), fun o ho => free_wood TLine.freeO TLine.freeI _ o ho _, ?_⟩
  simp
  refine fin_all ⟨b.lmap (·.map (recL owner)), ?_, rfl, ?_⟩
  · cases b <;> simp [SL.lmap, SL.ref]
  · rw [SL.lmap_list (by simp)]
    have := recover_con (owner := owner) hb
    unfold recover at this ⊢
    rw [areLines_con' hb, h1] at this
    simp only [h2, decide_true, Bool.and_self, if_true] at this
    simp only [h1, h2, decide_true, Bool.and_self, if_true]
    exact this
end A
end Go.Proofs.Ytgiiipbpadgcgaa
