/-
  AreSessions of the reference and of the program are the same plain function of the list, and the law answers true. No condition.
-/
import Derived.Test.YtgiiipbpadgcgaaSessO
import Derived.Test.YtgiiipbpadgcgaaFind
import Derived.Test.YtgiiipbpadgcgaaName
namespace Go.Proofs.Ytgiiipbpadgcgaa
namespace A
set_option linter.unusedVariables false
set_option linter.unusedSimpArgs false
set_option maxRecDepth 100000

/-- One session by itself. -/
def sessOk (x : TSession) : Bool := isName x.Id && decide (x.Data.length ≤ 2000) && inR x.Holder 0 1000000000000 && inR x.At 0 1000000000000
/-- No name stands twice. -/
def once : List TSession → Bool
  | [] => true
  | x :: l => !(l.map (·.Id)).contains x.Id && once l
def areSessions (l : List TSession) : Bool := l.all sessOk && once l.reverse && decide (l.length ≤ 8)

theorem findS_miss_iff (id : List UInt8) : ∀ (l : List TSession) (i : Nat), (l.map (·.Id)).contains id = false → findS id l i = -1
  | [], i, _ => rfl
  | x :: l, i, h => by
    simp only [List.map_cons, List.contains_cons, Bool.or_eq_false_iff] at h
    unfold findS
    rw [if_neg (by intro e; simp [e] at h)]
    exact findS_miss_iff id l (i + 1) h.2
theorem findS_app {id : List UInt8} (m : List TSession) : ∀ (l : List TSession) (i : Nat), (l.map (·.Id)).contains id = false → findS id (l ++ m) i = findS id m (i + l.length)
  | [], i, _ => by simp
  | x :: l, i, h => by
    simp only [List.map_cons, List.contains_cons, Bool.or_eq_false_iff] at h
    rw [List.cons_append, findS, if_neg (by intro e; simp [e] at h), findS_app m l (i + 1) h.2]
    simp only [List.length_cons]; congr 1; omega
theorem findS_hit_lt {id : List UInt8} (m : List TSession) : ∀ (l : List TSession) (i : Nat), (l.map (·.Id)).contains id = true → findS id (l ++ m) i < i + l.length
  | [], i, h => by simp at h
  | x :: l, i, h => by
    rw [List.cons_append, findS]
    by_cases e : x.Id = id
    · rw [if_pos e]; simp; omega
    · rw [if_neg e]
      have h' : (l.map (·.Id)).contains id = true := by
        simp only [List.map_cons, List.contains_cons, Bool.or_eq_true] at h
        rcases h with h | h
        · exact absurd (by simpa using h : id = x.Id).symm e
        · exact h
      have := findS_hit_lt m l (i + 1) h'
      simp; omega
/-- The first of its name is it itself just if none before has it. -/
theorem find_self {l : List TSession} {i : Nat} (h : i < l.length) : (findS l[i].Id l 0 = i) ↔ ((l.take i).map (·.Id)).contains l[i].Id = false := by
  have e : l = l.take i ++ l.drop i := (List.take_append_drop i l).symm
  have hl : (l.take i).length = i := by simp; omega
  constructor
  · intro hf
    cases hc : ((l.take i).map (·.Id)).contains l[i].Id with
    | false => rfl
    | true =>
      have := findS_hit_lt (l.drop i) (l.take i) 0 hc
      rw [← e, hf, hl] at this
      omega
  · intro hc
    have := findS_app (l.drop i) (l.take i) 0 hc
    rw [← e, hl] at this
    rw [this, List.drop_eq_getElem_cons h, findS, if_pos rfl]
    simp
theorem once_step {l : List TSession} {i : Nat} (h : i < l.length) : once (l.take (i + 1)).reverse = (!((l.take i).map (·.Id)).contains l[i].Id && once (l.take i).reverse) := by
  rw [List.take_succ_eq_append_getElem h, List.reverse_append]
  simp only [List.reverse_cons, List.reverse_nil, List.nil_append, List.singleton_append, once, List.map_reverse]
  congr 2
  rw [Bool.eq_iff_iff]
  simp
/-- Up to an index. -/
def okTo (l : List TSession) (i : Nat) : Bool := (l.take i).all sessOk && once (l.take i).reverse
theorem okTo_step {l : List TSession} {i : Nat} (h : i < l.length) : okTo l (i + 1) = (okTo l i && sessOk l[i] && !((l.take i).map (·.Id)).contains l[i].Id) := by
  unfold okTo
  rw [once_step h, List.take_succ_eq_append_getElem h, List.all_append]
  simp only [List.all_cons, List.all_nil, Bool.and_true]
  cases (l.take i).all sessOk <;> cases sessOk l[i] <;> cases once (l.take i).reverse <;> simp
theorem okTo_mono {l : List TSession} {i : Nat} (h : okTo l i = false) : areSessions l = false := by
  have key : ∀ j, i ≤ j → j ≤ l.length → okTo l j = false := by
    intro j hj
    induction hj with
    | refl => exact fun _ => h
    | step hj ih => intro hl; rw [okTo_step (by omega), ih (by omega)]; simp
  rcases Nat.lt_or_ge i l.length with h1 | h1
  · have := key l.length (Nat.le_of_lt h1) (Nat.le_refl _)
    unfold okTo at this
    rw [List.take_length] at this
    unfold areSessions
    rw [this]; rfl
  · unfold okTo at h
    rw [List.take_of_length_le h1] at h
    unfold areSessions
    rw [h]; rfl
theorem okTo_all {l : List TSession} (h : okTo l l.length = true) : areSessions l = decide (l.length ≤ 8) := by
  unfold okTo at h
  rw [List.take_length] at h
  unfold areSessions
  rw [h]; rfl

theorem spec_areS {s : SL TSession} (hs : okSessionS s) : Fnc Try.prog 20 [s.av 4 TSession.enc] (.bool (areSessions s.list)) := by
  have hn := hs.1
  refine fn_of c20 (by simp [F20]) fun c => ?_
  unfold F20
  simp
  refine loop_drop s.list.length (fun i e H c' => e 0 = s.av 4 TSession.enc ∧ e 3 = .int .i64 i ∧ okTo s.list i = true ∧ H = []) ⟨rfl, rfl, rfl, rfl⟩ ?_
  intro i e H c hi ⟨e0, e3, hall, hH⟩ N hN
  subst hH
  simp [e0, e3]
  refine ⟨fun h => ⟨s.list[i], List.getElem?_eq_getElem h, ?_⟩, fun h => ?_⟩
  · have hst := okTo_step h
    have hself := find_self h
    have hok := hs.2 _ (List.getElem_mem h)
    rw [hall] at hst
    generalize hx : s.list[i] = x at hst hself hok
    have bad : (sessOk x && !((s.list.take i).map (·.Id)).contains x.Id) = false → areSessions s.list = false := fun hb => okTo_mono (i := i + 1) (by rw [hst]; simpa using hb)
    simp [e0, e3]
    refine call_fn0 (spec_isName hok.1) .bool fun _ _ => ?_
    cases h1 : isName x.Id
    · simp [e0, e3]; exact fin_plain ⟨by rw [bad (by simp [sessOk, h1])], rfl⟩
    simp [e0, e3]
    refine call_fn0 (spec_find hn) .int fun _ _ => ?_
    by_cases h2 : findS x.Id s.list 0 = i
    rotate_left
    · simp [e0, e3, h2]
      have hc : ((s.list.take i).map (·.Id)).contains x.Id = true := by
        cases hc : ((s.list.take i).map (·.Id)).contains x.Id with
        | true => rfl
        | false => exact absurd (hself.2 hc) h2
      exact fin_plain ⟨by rw [bad (by rw [hc]; simp)], rfl⟩
    have hc := hself.1 h2
    simp [e0, e3, h2]
    by_cases h3 : (2000 : Int) < x.Data.length
    · simp [e0, e3, h3]; exact fin_plain ⟨by rw [bad (by simp [sessOk]; intros; omega)], rfl⟩
    simp [e0, e3, h3]
    refine call_fn0 (l1In_fn _ _ _) .bool fun _ _ => ?_
    cases h4 : inR x.Holder 0 1000000000000
    · simp [e0, e3, h3]; exact fin_plain ⟨by rw [bad (by simp [sessOk, h4])], rfl⟩
    simp [e0, e3, h3]
    refine call_fn0 (l1In_fn _ _ _) .bool fun _ _ => ?_
    cases h5 : inR x.At 0 1000000000000
    · simp [e0, e3, h3]; exact fin_plain ⟨by rw [bad (by simp [sessOk, h5])], rfl⟩
    simp [e0, e3, h3]
    exact hN _ _ _ _ h (List.nil_sublist _) ⟨by simp [upd, e0], by simp [upd]; exact step64 hn h, by rw [hst]; simp only [sessOk, h1, h4, h5, hc]; simp; omega, rfl⟩
  · have : i = s.list.length := by omega
    subst this
    refine fin_plain ⟨?_, rfl⟩
    rw [okTo_all hall]; simp; omega
def seenRow (x : TSession) : List AV := [.str x.Id, .bool true]
theorem mfind_no {id : List UInt8} : ∀ (l : List TSession) (k : Nat), (l.map (·.Id)).contains id = false → mfind (.str id) (l.map seenRow) k = some none
  | [], k, _ => rfl
  | x :: l, k, h => by
    simp only [List.map_cons, List.contains_cons, Bool.or_eq_false_iff] at h
    have e : keyEq (.str id) (.str x.Id) = some false := by simp only [keyEq]; rw [h.1]
    simp only [List.map_cons, seenRow, mfind, e]
    exact mfind_no l (k + 1) h.2
theorem mfind_yes {id : List UInt8} : ∀ (l : List TSession) (k : Nat), (l.map (·.Id)).contains id = true → ∃ j, mfind (.str id) (l.map seenRow) k = some (some (j, .bool true))
  | [], k, h => by simp at h
  | x :: l, k, h => by
    cases e : (id == x.Id) with
    | true =>
      have e' : keyEq (.str id) (.str x.Id) = some true := by simp only [keyEq]; rw [e]
      exact ⟨k, by simp only [List.map_cons, seenRow, mfind, e']⟩
    | false =>
      have e' : keyEq (.str id) (.str x.Id) = some false := by simp only [keyEq]; rw [e]
      simp only [List.map_cons, List.contains_cons, e, Bool.false_or] at h
      obtain ⟨j, hj⟩ := mfind_yes l (k + 1) h
      exact ⟨j, by simp only [List.map_cons, seenRow, mfind, e']; exact hj⟩
theorem lookup_no {H : List AObj} {d : TypeDesc} {z k : AV} {i tag : Nat} {rows : List (List AV)} {w : Nat} {K : AV → Prop} (hd : keyFits d k = true) (ho : H[i]? = some ⟨true, tag, w, rows⟩) (hm : mfind k rows 0 = some none) (h : K z) : lookupW d z false (.mref i tag) k H K :=
  ⟨hd, _, ho, rfl, rfl, by rw [hm]; exact h⟩
theorem lookup_yes {H : List AObj} {d : TypeDesc} {z k v : AV} {i tag j : Nat} {rows : List (List AV)} {w : Nat} {K : AV → Prop} (hd : keyFits d k = true) (ho : H[i]? = some ⟨true, tag, w, rows⟩) (hm : mfind k rows 0 = some (some (j, v))) (h : K v) : lookupW d z false (.mref i tag) k H K :=
  ⟨hd, _, ho, rfl, rfl, by rw [hm]; exact h⟩
theorem mupd_no {H : List AObj} {c : Nat} {d : TypeDesc} {k v : AV} {i tag : Nat} {rows : List (List AV)} {w : Nat} {K : AV → List AObj → Nat → Prop} (hd : keyFits d k = true) (ho : H[i]? = some ⟨true, tag, w, rows⟩) (hm : mfind k rows 0 = some none) (hl : rows.length < mx) (h : K .und (H.set i ⟨true, tag, w, rows ++ [[k, v]]⟩) c) : mupdW d (.mref i tag) k v H c K :=
  ⟨hd, _, ho, rfl, rfl, by rw [hm]; exact ⟨hl, h⟩⟩

def seenRows (l : List TSession) (i : Nat) : List (List AV) := (l.take i).map seenRow
theorem seenRows_step {l : List TSession} {i : Nat} (h : i < l.length) : seenRows l (i + 1) = seenRows l i ++ [seenRow l[i]] := by
  unfold seenRows; rw [List.take_succ_eq_append_getElem h, List.map_append]; rfl
theorem seenRows_len {l : List TSession} {i : Nat} : (seenRows l i).length ≤ i := by unfold seenRows; simp; omega
theorem impl_areS {s : SL TSession} (hs : okSessionS s) : Fnc Try.prog 22 [s.av 4 TSession.enc] (.bool (areSessions s.list)) := by
  have hn := hs.1
  refine fn_of c22 (by simp [F22]) fun c => ?_
  unfold F22
  simp
  refine loop_drop s.list.length (fun i e H c' => e 0 = s.av 4 TSession.enc ∧ e 3 = .mref 0 c ∧ e 7 = s.av 4 TSession.enc ∧ e 8 = .int .i64 s.list.length ∧ e 9 = .int .i64 i ∧ okTo s.list i = true ∧ H = [⟨true, c, 0, seenRows s.list i⟩]) ⟨rfl, rfl, rfl, rfl, rfl, rfl, rfl⟩ ?_
  intro i e H c' hi ⟨e0, e3, e7, e8, e9, hall, hH⟩ N hN
  subst hH
  simp [e0, e3, e7, e8, e9]
  refine ⟨fun h => ⟨s.list[i], List.getElem?_eq_getElem h, ?_⟩, fun h => ?_⟩
  · have hst := okTo_step h
    have hok := hs.2 _ (List.getElem_mem h)
    rw [hall] at hst
    have htk := seenRows_step h
    generalize hx : s.list[i] = x at hst hok htk
    have bad : (sessOk x && !((s.list.take i).map (·.Id)).contains x.Id) = false → areSessions s.list = false := fun hb => okTo_mono (i := i + 1) (by rw [hst]; simpa using hb)
    simp [e0, e3, e7, e8, e9]
    cases hc : ((s.list.take i).map (·.Id)).contains x.Id
    rotate_left
    · obtain ⟨j, hj⟩ : ∃ j, mfind (.str x.Id) (seenRows s.list i) 0 = some (some (j, .bool true)) := mfind_yes _ 0 hc
      refine lookup_yes rfl rfl hj ?_
      simp [e0, e3, e7, e8, e9]
      exact fin_plain ⟨by rw [bad (by rw [hc]; simp)], rfl⟩
    have hm : mfind (.str x.Id) (seenRows s.list i) 0 = some none := mfind_no _ 0 hc
    refine lookup_no rfl rfl hm ?_
    simp [e0, e3, e7, e8, e9]
    refine call_fn0 (impl_isName hok.1) .bool fun _ _ => ?_
    cases h1 : isName x.Id
    · simp [e0, e3, e7, e8, e9]; exact fin_plain ⟨by rw [bad (by simp [sessOk, h1])], rfl⟩
    simp [e0, e3, e7, e8, e9]
    by_cases h3 : (2000 : Int) < x.Data.length
    · simp [e0, e3, e7, e8, e9, h3]; exact fin_plain ⟨by rw [bad (by simp [sessOk]; intros; omega)], rfl⟩
    simp [e0, e3, e7, e8, e9, h3]
    refine call_fn0 (inRange_fn _ _ _) .bool fun _ _ => ?_
    cases h4 : inR x.Holder 0 1000000000000
    · simp [e0, e3, e7, e8, e9, h3]; exact fin_plain ⟨by rw [bad (by simp [sessOk, h4])], rfl⟩
    simp [e0, e3, e7, e8, e9, h3]
    refine call_fn0 (inRange_fn _ _ _) .bool fun _ _ => ?_
    cases h5 : inR x.At 0 1000000000000
    · simp [e0, e3, e7, e8, e9, h3]; exact fin_plain ⟨by rw [bad (by simp [sessOk, h5])], rfl⟩
    simp [e0, e3, e7, e8, e9, h3]
    refine mupd_no rfl rfl hm (by have := seenRows_len (l := s.list) (i := i); omega) ?_
    simp [e0, e3, e7, e8, e9, h3]
    exact hN _ _ _ _ h (sub_one _ _) ⟨by simp [upd, e0], by simp [upd, e3], by simp [upd, e7], by simp [upd, e8], by simp [upd]; exact step64 hn h, by rw [hst]; simp only [sessOk, h1, h4, h5, hc]; simp; omega, by rw [htk]; rfl⟩
  · have : i = s.list.length := by omega
    subst this
    refine fin_plain ⟨?_, rfl⟩
    rw [okTo_all hall]; simp; omega

theorem law_areS {s : SL TSession} (hs : okSessionS s) (c : Nat) : Con Try.prog 3 [s.av 4 TSession.enc] [] c fun r H' _ => r = .bool true ∧ H' = [] := by
  refine con_of c3 (by simp [F3]) ?_
  unfold F3
  simp
  refine call_fn0 (szSessionS_fn hs ⟨by omega, by omega⟩) .int fun _ _ => ?_
  simp
  refine ⟨fun _ => fin_plain ⟨rfl, rfl⟩, fun h => ?_⟩
  have hz : szSessionS s ≤ 1048576 := by have := (szOf_ge h).2; omega
  have hok : ∀ b : SL TSession, b.list = s.list → okSessionS b := fun b hb => by unfold okSessionS at hs ⊢; rw [hb]; exact hs
  refine call_tree0 (toSessionS_fn hz) fun r1 _ _ ⟨b1, e1, q1⟩ _ => ?_
  subst e1
  have q1 := sessCon q1
  simp
  refine call_fn0 (spec_areS (hok _ q1)) .bool fun _ _ => ?_
  simp
  refine call_tree0 (toSessionS_fn hz) fun r2 _ _ ⟨b2, e2, q2⟩ _ => ?_
  subst e2
  have q2 := sessCon q2
  simp
  refine call_fn0 (impl_areS (hok _ q2)) .bool fun _ _ => ?_
  simp [q1, q2]
  refine call_tree0 (toSessionS_fn hz) fun r3 _ _ ⟨b3, e3, q3⟩ _ => ?_
  subst e3
  have q3 := sessCon q3
  simp
  refine call_fn0 (eqSessionS_fn (by unfold szSessionS at hz ⊢; rw [q2]; omega) (by rw [q2, q3])) .bool fun _ _ => ?_
  simp
  exact fin_plain ⟨rfl, rfl⟩
end A
end Go.Proofs.Ytgiiipbpadgcgaa
