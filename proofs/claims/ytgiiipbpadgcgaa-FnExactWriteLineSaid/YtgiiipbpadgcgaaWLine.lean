/-
  WriteLine of the reference and of the program are the same plain function. No condition.
-/
import Derived.Test.YtgiiipbpadgcgaaRec
namespace Go.Proofs.Ytgiiipbpadgcgaa
namespace A
set_option linter.unusedVariables false
set_option linter.unusedSimpArgs false
set_option maxRecDepth 100000

/-- The objects stand in no order, and some may be let go. -/
theorem con_perm {P : Program} {f : Nat} {args : List AV} {H : List AObj} {c : Nat} {Q Q' : AV → List AObj → Nat → Prop} (h : Con P f args H c Q) (hq : ∀ r H' c', Q r H' c' → ∃ Hs H2, Hs.Sublist H' ∧ H2.Perm Hs ∧ Q' r H2 c') : Con P f args H c Q' := by
  intro G w vs e I hs hr
  refine (h G w vs e I hs hr).mono fun en w' ⟨v, res, H', G', h1, h2, h3, h4, h5⟩ => ?_
  obtain ⟨Hs, H2, hsub, hp, q⟩ := hq _ _ _ h2
  have h3 := h3.drop hsub
  have h4 := h4.drop hsub
  have ht : ∀ t, t ∈ tags H2 ↔ t ∈ tags Hs := fun t => (hp.map _).mem_iff
  refine ⟨v, res, H2, G', h1, q, ⟨h3.x, h3.os, h3.tape, h3.output, h3.size, h3.frame, h3.newm, fun t a b => h3.oldH t a ((ht t).1 b), h3.oldF⟩, ⟨h4.fz, fun o ho => h4.obj o (hp.mem_iff.1 ho), fun t a => h4.nfz t ((ht t).1 a), (hp.map _).nodup_iff.2 h4.nodup, fun t t' a b => h4.inj t t' (a.imp id (ht t).1) (b.imp id (ht t').1)⟩, h5⟩

def wrOk (l : List TLine) (at_ v : Int) (n : Nat) : Bool :=
  areLines l && inR at_ 0 ((l.length : Int) - 1) && (match l[at_.toNat]? with | some x => !decide (x.Seq.tmod 2 = 1) && !decide (999999999998 < x.Seq) | none => false) && inR v 1 1000000000000 && decide (n ≤ 4100)
def wrOne (v : Int) (w : SL Int) (x : TLine) : TLine := ⟨x.Seq + 2, 0, v, w⟩
def wr (l : List TLine) (at_ v : Int) (ws : SL Int) : List TLine :=
  if wrOk l at_ v ws.list.length then (match l[at_.toNat]? with | some x => l.set at_.toNat (wrOne v ws x) | none => l) else l

def WQ (s : SL TLine) (at_ v : Int) (ws : SL Int) (r : AV) (O : List AObj) : Prop :=
  ∃ b : SL TLine, r = .tup [b.ref 4, .bool (wrOk s.list at_ v ws.list.length)] ∧ b.list.map TLine.con = s.list.map TLine.con ∧
      ((wrOk s.list at_ v ws.list.length = false ∧ O = b.wood 4 TLine.encO TLine.inn) ∨
       (wrOk s.list at_ v ws.list.length = true ∧ ∃ (t i : Nat) (x : TLine) (w : SL Int), at_ = i ∧ b = .mk t b.list ∧ b.list[i]? = some x ∧ w.list = ws.list ∧
        O = ⟨false, t, 4, (b.list.set i (wrOne v w x)).map TLine.encO⟩ :: (inns b.list ++ w.wood 1 encI noInn)))

theorem impl_wrO1 {s : SL TLine} {at_ v : Int} {ws : SL Int} (hn : s.list.length ≤ 1048576) (hz : ∀ x, x ∈ s.list → x.Words.list.length ≤ 1048576) (hw : ws.list.length ≤ 1048576) (c : Nat) :
    Con Try.prog 52 [s.av 4 TLine.enc, .int .i64 at_, .int .i64 v, ws.av 1 encI] [] c fun r O _ => WQ s at_ v ws r O := by
  refine con_of c52 (by simp [F52]) ?_
  unfold F52
  simp
  refine call_new (impl_copyO hn hz _) (Views.refl _ _) fun r O c1 hc ⟨b, hr, hO, hb⟩ _ _ => ?_
  subst hr; subst hO
  refine ⟨_, .refl _, free_ref _ _ _, fun o ho => free_wood TLine.freeO TLine.freeI _ o ho _, ?_⟩
  have hbl : b.list.length = s.list.length := by simpa using congrArg List.length hb
  simp
  refine call_fn (impl_areLines (by unfold mx; omega)) (Views.refl _ _) .bool fun _ _ => ?_
  cases h1 : areLines s.list
  · simp
    exact fin_all ⟨b, by simp [wrOk, h1], hb, .inl ⟨by simp [wrOk, h1], rfl⟩⟩
  have hw1 : IntKind.i64.wrap ((s.list.length : Int) - 1) = (s.list.length : Int) - 1 := wrap64 (by omega) (by omega)
  simp [hw1]
  refine call_fn (inRange_fn _ _ _) (Views.refl _ _) .bool fun _ _ => ?_
  cases h2 : inR at_ 0 ((s.list.length : Int) - 1)
  · simp
    exact fin_all ⟨b, by simp [wrOk, h1, h2], hb, .inl ⟨by simp [wrOk, h1, h2], rfl⟩⟩
  have h2' := inR_true h2
  obtain ⟨i, rfl⟩ := Int.eq_ofNat_of_zero_le h2'.1
  have hi : i < s.list.length := by omega
  have hget : s.list[i]? = some s.list[i] := List.getElem?_eq_getElem hi
  have hseq := areLines_seq h1 _ (List.getElem_mem hi)
  have hbi : b.list[i].con = s.list[i].con := by
    have := congrArg (·[i]?) hb
    simp only [List.getElem?_map, List.getElem?_eq_getElem hi, List.getElem?_eq_getElem (hbl ▸ hi : i < b.list.length), Option.map_some, Option.some.injEq] at this
    exact this
  generalize s.list[i] = x at hget hseq hbi
  have bad : wrOk s.list (i : Int) v ws.list.length = false → ∀ c', finW (fun r O _ => WQ s (i : Int) v ws r O) (.tup [b.ref 4, .bool false]) (b.wood 4 TLine.encO TLine.inn) c' := fun h c' =>
    fin_all ⟨b, by rw [h], hb, .inl ⟨h, rfl⟩⟩
  simp [hi, h1, h2]
  refine ⟨x, hget, ?_⟩
  by_cases h3 : x.Seq.tmod 2 = 1
  · simp [hi, h1, h2, h3]
    exact bad (by simp [wrOk, hget, h3]) _
  simp [hi, h1, h2, h3]
  refine ⟨x, hget, ?_⟩
  by_cases h4 : 999999999998 < x.Seq
  · simp [hi, h1, h2, h3, h4]
    exact bad (by simp [wrOk, hget, h4]) _
  simp [hi, h1, h2, h3, h4]
  refine call_fn (inRange_fn _ _ _) (Views.refl _ _) .bool fun _ _ => ?_
  cases h5 : inR v 1 1000000000000
  · simp [hi, h1, h2, h3, h4]
    exact bad (by simp [wrOk, h5]) _
  by_cases h6 : (4100 : Int) < ws.list.length
  · simp [hi, h1, h2, h3, h4, h6]
    exact bad (by simp [wrOk]; intros; omega) _
  simp [hi, h1, h2, h3, h4, h6]
  have ok : wrOk s.list (i : Int) v ws.list.length = true := by
    have h4' : x.Seq ≤ 999999999998 := by omega
    have h6' : ws.list.length ≤ 4100 := by omega
    simp [wrOk, h1, h2, hget, h3, h4', h5, h6']
  cases b with
  | nil => simp at hbl; omega
  | mk t l =>
    simp only [SL.list_mk] at hb hbl hbi
    have hil : i < l.length := by omega
    have hgl : l[i]? = some l[i] := List.getElem?_eq_getElem hil
    generalize l[i] = y at hgl hbi
    have hys : y.Seq = x.Seq := by have := congrArg TLine.Seq hbi; exact this
    have hyo : y.Owner = x.Owner := by have := congrArg TLine.Owner hbi; exact this
    have w2 : IntKind.i64.wrap (x.Seq + 2) = x.Seq + 2 := wrap64 (by omega) (by omega)
    have hset : ∀ z : List AV, (l.map TLine.encO).length = l.length := fun _ => by simp
    simp [ref_mk, hil, wood_inns]
    refine ⟨y, hgl, ?_⟩
    simp [ref_mk, hil, wood_inns, hys, w2, putA]
    refine ⟨y, hgl, ?_⟩
    simp only [Lz_app]
    refine call_new (cloneIO hw _) (Views.refl _ _) fun r O c2 hc2 ⟨w, hr, hO, hwl⟩ _ _ => ?_
    subst hr; subst hO
    refine ⟨_, .refl _, free_ref _ _ _, fun o ho => flat_free encI_flat _ _ o ho _, ?_⟩
    simp [ref_mk, hil, putA]
    have hown : y.Owner = 0 := by
      have hl : lineOk x = true := by
        unfold areLines at h1
        simp only [Bool.and_eq_true, List.all_eq_true] at h1
        exact h1.1 x (List.mem_of_getElem? hget)
      unfold lineOk at hl
      simp only [Bool.and_eq_true, beq_iff_eq, decide_eq_decide] at hl
      have ho := inR_true hl.1.1.1.2
      have := mt hl.2.2 h3
      omega
    refine fin_all ⟨.mk t l, by rw [ok]; simp [ref_mk], hb, .inr ⟨ok, t, i, y, w, rfl, rfl, hgl, hwl, ?_⟩⟩
    simp [wrOne, TLine.encO, List.map_set, hys, hown]
theorem renSet {t w i : Nat} {rows : List (List AV)} {row row' : List AV} (hl : row'.length = row.length) (h : ∀ (j : Nat) (a a' : AV), row[j]? = some a → row'[j]? = some a' → a' = a ∨ (a'.cell = true ∧ View [] a a')) :
    RenO [] ⟨false, t, w, rows.set i row⟩ ⟨false, t, w, rows.set i row'⟩ where
  mp := rfl
  tag := rfl
  w := rfl
  len := by simp
  maps h := by cases h
  row r x x' h1 h2 := by
    by_cases hr : i = r
    · subst hr
      rw [List.getElem?_set_self'] at h1 h2
      simp only [Option.map_eq_map, Option.map_eq_some_iff, Function.const] at h1 h2
      obtain ⟨_, _, rfl⟩ := h1
      obtain ⟨_, _, rfl⟩ := h2
      exact ⟨hl, h⟩
    · rw [List.getElem?_set_ne hr] at h1 h2
      rw [h1] at h2; cases h2
      exact ⟨rfl, fun j a a' h3 h4 => by rw [h3] at h4; cases h4; exact .inl rfl⟩

theorem spec_wrO1 {s : SL TLine} {at_ v : Int} {ws : SL Int} (hn : s.list.length ≤ 1048576) (hz : ∀ x, x ∈ s.list → x.Words.list.length ≤ 1048576) (hw : ws.list.length ≤ 1048576) (c : Nat) :
    Con Try.prog 50 [s.av 4 TLine.enc, .int .i64 at_, .int .i64 v, ws.av 1 encI] [] c fun r O _ => WQ s at_ v ws r O := by
  refine con_of c50 (by simp [F50]) ?_
  unfold F50
  simp
  refine call_new (spec_copyO hn hz _) (Views.refl _ _) fun r O c1 hc ⟨b, hr, hO, hb⟩ _ _ => ?_
  subst hr; subst hO
  refine ⟨_, .refl _, free_ref _ _ _, fun o ho => free_wood TLine.freeO TLine.freeI _ o ho _, ?_⟩
  have hbl : b.list.length = s.list.length := by simpa using congrArg List.length hb
  simp
  refine call_fn (spec_areLines (by unfold mx; omega)) (Views.refl _ _) .bool fun _ _ => ?_
  cases h1 : areLines s.list
  · simp
    exact fin_all ⟨b, by simp [wrOk, h1], hb, .inl ⟨by simp [wrOk, h1], rfl⟩⟩
  have hw1 : IntKind.i64.wrap ((s.list.length : Int) - 1) = (s.list.length : Int) - 1 := wrap64 (by omega) (by omega)
  simp [hw1]
  refine call_fn (l1In_fn _ _ _) (Views.refl _ _) .bool fun _ _ => ?_
  cases h2 : inR at_ 0 ((s.list.length : Int) - 1)
  · simp
    exact fin_all ⟨b, by simp [wrOk, h1, h2], hb, .inl ⟨by simp [wrOk, h1, h2], rfl⟩⟩
  have h2' := inR_true h2
  obtain ⟨i, rfl⟩ := Int.eq_ofNat_of_zero_le h2'.1
  have hi : i < s.list.length := by omega
  have hget : s.list[i]? = some s.list[i] := List.getElem?_eq_getElem hi
  have hseq := areLines_seq h1 _ (List.getElem_mem hi)
  have hbi : b.list[i].con = s.list[i].con := by
    have := congrArg (·[i]?) hb
    simp only [List.getElem?_map, List.getElem?_eq_getElem hi, List.getElem?_eq_getElem (hbl ▸ hi : i < b.list.length), Option.map_some, Option.some.injEq] at this
    exact this
  generalize s.list[i] = x at hget hseq hbi
  have bad : wrOk s.list (i : Int) v ws.list.length = false → ∀ c', finW (fun r O _ => WQ s (i : Int) v ws r O) (.tup [b.ref 4, .bool false]) (b.wood 4 TLine.encO TLine.inn) c' := fun h c' =>
    fin_all ⟨b, by rw [h], hb, .inl ⟨h, rfl⟩⟩
  simp [hi, h1, h2]
  refine ⟨x, hget, ?_⟩
  by_cases h3 : x.Seq.tmod 2 = 1
  · simp [hi, h1, h2, h3]
    exact bad (by simp [wrOk, hget, h3]) _
  simp [hi, h1, h2, h3]
  refine ⟨x, hget, ?_⟩
  by_cases h4 : 999999999998 < x.Seq
  · simp [hi, h1, h2, h3, h4]
    exact bad (by simp [wrOk, hget, h4]) _
  simp [hi, h1, h2, h3, h4]
  refine call_fn (l1In_fn _ _ _) (Views.refl _ _) .bool fun cc _ => ?_
  cases h5 : inR v 1 1000000000000
  · simp [hi, h1, h2, h3, h4]
    exact bad (by simp [wrOk, h5]) _
  by_cases h6 : (4100 : Int) < ws.list.length
  · simp [hi, h1, h2, h3, h4, h6]
    exact bad (by simp [wrOk]; intros; omega) _
  simp [hi, h1, h2, h3, h4, h6]
  have ok : wrOk s.list (i : Int) v ws.list.length = true := by
    have h4' : x.Seq ≤ 999999999998 := by omega
    have h6' : ws.list.length ≤ 4100 := by omega
    simp [wrOk, h1, h2, hget, h3, h4', h5, h6']
  cases b with
  | nil => simp at hbl; omega
  | mk t l =>
    simp only [SL.list_mk] at hb hbl hbi
    have hil : i < l.length := by omega
    have hgl : l[i]? = some l[i] := List.getElem?_eq_getElem hil
    generalize l[i] = y at hgl hbi
    have hys : y.Seq = x.Seq := by have := congrArg TLine.Seq hbi; exact this
    have hyo : y.Owner = x.Owner := by have := congrArg TLine.Owner hbi; exact this
    have w2 : IntKind.i64.wrap (x.Seq + 2) = x.Seq + 2 := wrap64 (by omega) (by omega)
    simp [ref_mk, hil, wood_inns]
    refine ⟨x, hget, ?_⟩
    have m1 : ws.list.length * 8 ≤ 140737488355328 := by omega
    have m2 : ws.list.length ≤ mx := by unfold mx; omega
    simp [ref_mk, hil, wood_inns, w2, putA, m1, m2]
    have hd4 : List.drop 4 y.encO = [] := rfl
    refine ⟨y, hgl, ?_⟩
    simp [hd4]
    refine fin_ren (List.Sublist.refl _) (.cons (renSet (row' := (wrOne v (.mk (cc + 1) ws.list) y).encO) ?_ ?_) (.refl _ _)) (.refl _) ⟨.mk t l, by rw [ok]; simp [ref_mk], hb, .inr ⟨ok, t, i, y, .mk (cc + 1) ws.list, rfl, rfl, hgl, rfl, ?_⟩⟩
    · rfl
    · intro j a a' h7 h8
      match j, h7, h8 with
      | 0, h7, h8 => simp at h7; simp [TLine.encO, wrOne] at h8; exact .inl (by rw [← h7, ← h8, hys])
      | 1, h7, h8 => simp at h7; simp [TLine.encO, wrOne] at h8; exact .inl (by rw [← h7, ← h8])
      | 2, h7, h8 => simp at h7; simp [TLine.encO, wrOne] at h8; exact .inl (by rw [← h7, ← h8])
      | 3, h7, h8 =>
        simp at h7; simp [TLine.encO, wrOne] at h8
        subst h7; subst h8
        exact .inr ⟨rfl, view_at' ((inns l).length + 1) 1 (SL.mk (cc + 1) ws.list) []⟩
      | j + 4, h7, h8 => simp at h7
    · simp [List.map_set, flat_wood]
theorem inns_at {l : List TLine} {i : Nat} (h : i < l.length) : inns l = inns (l.take i) ++ (l[i].inn ++ inns (l.drop (i + 1))) := by
  rw [← inns_cons, ← List.drop_eq_getElem_cons h, ← inns_app, List.take_append_drop]
theorem inns_set {l : List TLine} {i : Nat} (h : i < l.length) (z : TLine) : inns (l.set i z) = inns (l.take i) ++ (z.inn ++ inns (l.drop (i + 1))) := by
  rw [List.set_eq_take_append_cons_drop, if_pos h, inns_app, inns_cons]

/-- What WriteLine hands back. -/
def WR (s : SL TLine) (at_ v : Int) (ws : SL Int) (b : SL TLine) (l : List AV) : Prop := l = [.bool (wrOk s.list at_ v ws.list.length)] ∧ b.list.map TLine.con = (wr s.list at_ v ws).map TLine.con

theorem wq_wr {s : SL TLine} {at_ v : Int} {ws : SL Int} {r : AV} {O : List AObj} (h : WQ s at_ v ws r O) :
    ∃ Hs H2 : List AObj, Hs.Sublist O ∧ H2.Perm Hs ∧ ∃ (b : SL TLine) (l : List AV), r = .tup (b.ref 4 :: l) ∧ H2 = b.wood 4 TLine.encO TLine.inn ∧ WR s at_ v ws b l := by
  obtain ⟨b, hr, hb, ⟨hk, hO⟩ | ⟨hk, t, i, x, w, ha, hbt, hg, hw, hO⟩⟩ := h
  · exact ⟨O, O, List.Sublist.refl _, List.Perm.refl _, b, _, hr, hO, rfl, by rw [hb]; unfold wr; rw [if_neg (by simp [hk])]⟩
  · obtain ⟨hi, hgx⟩ := List.getElem?_eq_some_iff.1 hg
    generalize b.list = bl at hb hbt hg hO hi hgx
    subst hbt; subst ha; subst hO
    have hsl : bl.length = s.list.length := by simpa using congrArg List.length hb
    obtain ⟨y, hy⟩ : ∃ y, s.list[i]? = some y := ⟨_, List.getElem?_eq_getElem (hsl ▸ hi)⟩
    have hxy : x.con = y.con := by
      have := congrArg (·[i]?) hb
      simp only [List.getElem?_map, hg, hy, Option.map_some, Option.some.injEq] at this
      exact this
    refine ⟨⟨false, t, 4, (bl.set i (wrOne v w x)).map TLine.encO⟩ :: ((inns (bl.take i) ++ inns (bl.drop (i + 1))) ++ w.wood 1 encI noInn), ⟨false, t, 4, (bl.set i (wrOne v w x)).map TLine.encO⟩ :: inns (bl.set i (wrOne v w x)), ?_, ?_, .mk t (bl.set i (wrOne v w x)), _, ?_, (wood_inns _ _).symm, rfl, ?_⟩
    · rw [inns_at hi]
      refine List.Sublist.cons_cons _ (List.Sublist.append (List.Sublist.append (List.Sublist.refl _) (List.sublist_append_right _ _)) (List.Sublist.refl _))
    · rw [inns_set hi]
      refine List.Perm.cons _ ?_
      rw [List.append_assoc]
      exact List.Perm.append_left _ List.perm_append_comm
    · rw [hr]; simp [ref_mk]
    · unfold wr
      rw [if_pos hk]
      simp only [Int.toNat_natCast, hy, SL.list_mk, List.map_set, hb]
      congr 1
      have h1 : x.Seq = y.Seq := (congrArg TLine.Seq hxy : x.con.Seq = y.con.Seq)
      simp [TLine.con, wrOne, SL.pcon, h1, hw]

theorem spec_wrO {s : SL TLine} {at_ v : Int} {ws : SL Int} (hn : s.list.length ≤ 1048576) (hz : ∀ x, x ∈ s.list → x.Words.list.length ≤ 1048576) (hw : ws.list.length ≤ 1048576) (c : Nat) :
    Con Try.prog 50 [s.av 4 TLine.enc, .int .i64 at_, .int .i64 v, ws.av 1 encI] [] c fun r O _ => ∃ (b : SL TLine) (l : List AV), r = .tup (b.ref 4 :: l) ∧ O = b.wood 4 TLine.encO TLine.inn ∧ WR s at_ v ws b l :=
  con_perm (spec_wrO1 hn hz hw c) fun r H' c' h => wq_wr h
theorem impl_wrO {s : SL TLine} {at_ v : Int} {ws : SL Int} (hn : s.list.length ≤ 1048576) (hz : ∀ x, x ∈ s.list → x.Words.list.length ≤ 1048576) (hw : ws.list.length ≤ 1048576) (c : Nat) :
    Con Try.prog 52 [s.av 4 TLine.enc, .int .i64 at_, .int .i64 v, ws.av 1 encI] [] c fun r O _ => ∃ (b : SL TLine) (l : List AV), r = .tup (b.ref 4 :: l) ∧ O = b.wood 4 TLine.encO TLine.inn ∧ WR s at_ v ws b l :=
  con_perm (impl_wrO1 hn hz hw c) fun r H' c' h => wq_wr h

theorem wr_con {l m : List TLine} {at_ v : Int} {ws us : SL Int} (h : l.map TLine.con = m.map TLine.con) (hw : ws.list = us.list) : wrOk l at_ v ws.list.length = wrOk m at_ v us.list.length ∧ (wr l at_ v ws).map TLine.con = (wr m at_ v us).map TLine.con := by
  have hlen : l.length = m.length := by simpa using congrArg List.length h
  have hg : (l[at_.toNat]?).map TLine.con = (m[at_.toNat]?).map TLine.con := by
    have := congrArg (·[at_.toNat]?) h
    simpa only [List.getElem?_map] using this
  have hok : wrOk l at_ v ws.list.length = wrOk m at_ v us.list.length := by
    unfold wrOk
    rw [areLines_con' h, hlen, hw]
    congr 3
    cases h1 : l[at_.toNat]? with
    | none =>
      cases h2 : m[at_.toNat]? with
      | none => rfl
      | some y => rw [h1, h2] at hg; cases hg
    | some x =>
      cases h2 : m[at_.toNat]? with
      | none => rw [h1, h2] at hg; cases hg
      | some y =>
        rw [h1, h2] at hg
        have : x.con = y.con := by simpa using hg
        have : x.Seq = y.Seq := (congrArg TLine.Seq this : x.con.Seq = y.con.Seq)
        dsimp only; rw [this]
  refine ⟨hok, ?_⟩
  unfold wr
  rw [hok]
  split
  · cases h1 : l[at_.toNat]? with
    | none =>
      cases h2 : m[at_.toNat]? with
      | none => exact h
      | some y => rw [h1, h2] at hg; cases hg
    | some x =>
      cases h2 : m[at_.toNat]? with
      | none => rw [h1, h2] at hg; cases hg
      | some y =>
        rw [h1, h2] at hg
        have hxy : x.con = y.con := by simpa using hg
        have hs : x.Seq = y.Seq := (congrArg TLine.Seq hxy : x.con.Seq = y.con.Seq)
        simp only [List.map_set, h]
        congr 1
        simp [TLine.con, wrOne, SL.pcon, hs, hw]
  · exact h
end A
end Go.Proofs.Ytgiiipbpadgcgaa
