import Derived.Test.YtgiiipbpadgcgaaB07

/-
  Lists of sessions, kept as0 objects. No condition.
-/


namespace Go.Proofs.Ytgiiipbpadgcgaa
namespace A
set_option linter.unusedVariables false
set_option linter.unusedSimpArgs false
set_option maxRecDepth 100000

theorem toSessionSO {s : SL TSession} (h : szSessionS s ≤ 1048576) (c : Nat) : Con Try.prog 21 [s.av 4 TSession.enc] [] c fun r H' _ => ∃ b : SL TSession, r = b.ref 4 ∧ H' = b.wood 4 TSession.enc noInn ∧ b.list.map TSession.con = s.list.map TSession.con := by
  unfold szSessionS at h
  exact toSO_fn (g := 81) (z := [.str [], .str [], .int .i64 0, .int .i64 0]) (bytes := 48) c21 rfl (fun _ => rfl) (fun _ => rfl) (fun x a ha => (TSession.flat x a ha).2) (fun x o ho => by cases ho) (by omega) (by omega)
    (fun x hx c => (TSession.to_fn (by have := szL_mem (sz := TSession.sz) hx; omega) c).mono fun r H' c' _ ⟨hH, ⟨b, hr, hb⟩, _⟩ => ⟨b, hr, hH, hb⟩) c
theorem sessCon {l m : List TSession} (h : l.map TSession.con = m.map TSession.con) : l = m := by
  have e : ∀ l : List TSession, l.map TSession.con = l := fun l => List.map_id' l
  rwa [e, e] at h
end A
end Go.Proofs.Ytgiiipbpadgcgaa

/-
  Names, of the reference and of the program. No condition.
-/

namespace Go.Proofs.Ytgiiipbpadgcgaa
namespace A
set_option linter.unusedVariables false
set_option linter.unusedSimpArgs false
set_option maxRecDepth 100000

def isL (b : UInt8) : Bool := inR b.toNat 97 122 || inR b.toNat 65 90 || decide (b.toNat = 95)
def isD (b : UInt8) : Bool := inR b.toNat 48 57
theorem wrap_b (b : UInt8) : IntKind.i64.wrap (b.toNat : Int) = b.toNat := by
  have := b.toNat_lt
  exact wrap64 (by omega) (by omega)
theorem letter_fn (b : UInt8) : Fnc Try.prog 160 [.int .u8 b.toNat] (.bool (isL b)) := by
  refine fn_of c160 (by simp [F160]) fun c => ?_
  unfold F160
  simp [wrap_b]
  refine call_fn0 (l1In_fn _ _ _) .bool fun _ _ => ?_
  cases h1 : inR b.toNat 97 122 <;> simp [wrap_b]
  · refine call_fn0 (l1In_fn _ _ _) .bool fun _ _ => ?_
    cases h2 : inR b.toNat 65 90 <;> simp
    · exact fin_plain ⟨by simp [isL, h1, h2]; omega, rfl⟩
    · exact fin_plain ⟨by simp [isL, h1, h2], rfl⟩
  · exact fin_plain ⟨by simp [isL, h1], rfl⟩
theorem digit_fn (b : UInt8) : Fnc Try.prog 161 [.int .u8 b.toNat] (.bool (isD b)) := by
  refine fn_of c161 (by simp [F161]) fun c => ?_
  unfold F161
  simp [wrap_b]
  refine call_fn0 (l1In_fn _ _ _) .bool fun _ _ => ?_
  simp
  exact fin_plain ⟨rfl, rfl⟩
def isA (b : UInt8) : Bool := inR b.toNat 65 90 || inR b.toNat 97 122
theorem isLetter_fn (b : UInt8) : Fnc Try.prog 162 [.int .u8 b.toNat] (.bool (isA b)) := by
  refine fn_of c162 (by simp [F162]) fun c => ?_
  unfold F162 isA inR
  by_cases h1 : (65 : Int) ≤ b.toNat <;> by_cases h2 : (b.toNat : Int) ≤ 90 <;> by_cases h3 : (97 : Int) ≤ b.toNat <;> simp [h1, h2, h3] <;> exact fin_plain (by simp)
theorem isDigit_fn (b : UInt8) : Fnc Try.prog 163 [.int .u8 b.toNat] (.bool (isD b)) := by
  refine fn_of c163 (by simp [F163]) fun c => ?_
  unfold F163 isD inR
  by_cases h1 : (48 : Int) ≤ b.toNat <;> simp [h1] <;> exact fin_plain (by simp)
theorem isL_A (b : UInt8) : isL b = (isA b || decide (b.toNat = 95)) := by
  simp [isL, isA, Bool.or_comm (inR b.toNat 97 122)]

/-- The end of the name. -/
def nm : List UInt8 → Nat → Nat
  | [], i => i
  | b :: l, i => if isL b || (decide (0 < i) && isD b) then nm l (i + 1) else i
theorem nm_go {l : List UInt8} {i : Nat} (h : i < l.length) (e : (isL l[i] || (decide (0 < i) && isD l[i])) = true) : nm (l.drop i) i = nm (l.drop (i + 1)) (i + 1) := by
  rw [List.drop_eq_getElem_cons h, nm, if_pos e]
theorem nm_stop {l : List UInt8} {i : Nat} (h : i < l.length) (e : (isL l[i] || (decide (0 < i) && isD l[i])) = false) : nm (l.drop i) i = i := by
  rw [List.drop_eq_getElem_cons h, nm, if_neg (by simp only [e]; simp)]
theorem nm_end {l : List UInt8} {i : Nat} (h : l.length ≤ i) : nm (l.drop i) i = i := by
  rw [List.drop_eq_nil_of_le h]; rfl
theorem specName_fn {l : List UInt8} (hl : l.length ≤ mx) : Fnc Try.prog 127 [.str l, .int .i64 0] (.int .i64 (nm l 0)) := by
  refine fn_of c127 (by simp [F127]) fun c => ?_
  unfold F127
  simp
  refine loop_drop l.length (fun i e H c' => e 0 = .str l ∧ e 1 = .int .i64 0 ∧ e 5 = .int .i64 i ∧ nm (l.drop i) i = nm l 0 ∧ H = []) ⟨rfl, rfl, rfl, by simp, rfl⟩ ?_
  intro i e H c hi ⟨e0, e1, e5, hd, hH⟩ N hN
  subst hH
  rcases Nat.lt_or_ge i l.length with h | h
  · have hb : l[i]? = some l[i] := List.getElem?_eq_getElem h
    have next : (isL l[i] || (decide (0 < i) && isD l[i])) = true → nm (l.drop (i + 1)) (i + 1) = nm l 0 := fun e => by rw [← hd, nm_go h e]
    have stop : (isL l[i] || (decide (0 < i) && isD l[i])) = false → i = nm l 0 := fun e => by rw [← hd, nm_stop h e]
    generalize l[i] = b at hb next stop
    simp [e0, e1, e5, h]
    refine ⟨_, hb, ?_⟩
    simp [e0, e1, e5, h]
    refine call_fn0 (letter_fn b) .bool fun _ _ => ?_
    cases h1 : isL b
    · by_cases h2 : 0 < i
      · simp [e0, e1, e5, h, h2]
        refine ⟨_, hb, ?_⟩
        simp [e0, e1, e5, h, h2]
        refine call_fn0 (digit_fn b) .bool fun _ _ => ?_
        cases h3 : isD b
        · simp [e0, e1, e5]
          exact fin_plain ⟨by rw [stop (by simp [h1, h3])], rfl⟩
        · simp [e0, e1, e5]
          exact hN _ _ _ _ h (List.Sublist.refl _) ⟨by simp [upd, e0], by simp [upd, e1], by simp [upd]; exact step64 hl h, next (by simp [h1, h2, h3]), rfl⟩
      · simp [e0, e1, e5, h, h2]
        exact fin_plain ⟨by rw [stop (by simp [h1, h2])], rfl⟩
    · simp [e0, e1, e5]
      exact hN _ _ _ _ h (List.Sublist.refl _) ⟨by simp [upd, e0], by simp [upd, e1], by simp [upd]; exact step64 hl h, next (by simp [h1]), rfl⟩
  · have : ¬ (i < l.length) := by omega
    simp [e0, e1, e5, this]
    exact fin_plain ⟨by rw [← hd, nm_end h], rfl⟩
theorem implName_fn {l : List UInt8} (hl : l.length ≤ mx) : Fnc Try.prog 128 [.str l] (.int .i64 (nm l 0)) := by
  refine fn_of c128 (by simp [F128]) fun c => ?_
  unfold F128
  simp
  refine loop_drop l.length (fun i e H c' => e 0 = .str l ∧ e 3 = .int .i64 i ∧ nm (l.drop i) i = nm l 0 ∧ H = []) ⟨rfl, rfl, by simp, rfl⟩ ?_
  intro i e H c hi ⟨e0, e3, hd, hH⟩ N hN
  subst hH
  rcases Nat.lt_or_ge i l.length with h | h
  · have hb : l[i]? = some l[i] := List.getElem?_eq_getElem h
    have next : (isL l[i] || (decide (0 < i) && isD l[i])) = true → nm (l.drop (i + 1)) (i + 1) = nm l 0 := fun e => by rw [← hd, nm_go h e]
    have stop : (isL l[i] || (decide (0 < i) && isD l[i])) = false → i = nm l 0 := fun e => by rw [← hd, nm_stop h e]
    generalize l[i] = b at hb next stop
    rw [isL_A] at next stop
    simp [e0, e3, h]
    refine ⟨_, hb, ?_⟩
    simp [e0, e3, h]
    refine call_fn0 (isLetter_fn b) .bool fun _ _ => ?_
    cases h1 : isA b
    · simp [e0, e3, h]
      refine ⟨_, hb, ?_⟩
      by_cases h4 : (b.toNat : Int) = 95
      · have h4' : b.toNat = 95 := by omega
        simp [e0, e3, h4]
        exact hN _ _ _ _ h (List.Sublist.refl _) ⟨by simp [upd, e0], by simp [upd]; exact step64 hl h, next (by simp [h4']), rfl⟩
      have h4' : ¬ b.toNat = 95 := by omega
      by_cases h2 : 0 < i
      · simp [e0, e3, h, h2, h4]
        refine ⟨_, hb, ?_⟩
        simp [e0, e3, h, h2, h4]
        refine call_fn0 (isDigit_fn b) .bool fun _ _ => ?_
        cases h3 : isD b
        · simp [e0, e3, h2, h4]
          exact fin_plain ⟨by rw [stop (by simp [h1, h3, h4'])], rfl⟩
        · simp [e0, e3, h2, h4]
          exact hN _ _ _ _ h (List.Sublist.refl _) ⟨by simp [upd, e0], by simp [upd]; exact step64 hl h, next (by simp [h2, h3]), rfl⟩
      · simp [e0, e3, h, h2, h4]
        exact fin_plain ⟨by rw [stop (by simp [h1, h2, h4'])], rfl⟩
    · simp [e0, e3]
      exact hN _ _ _ _ h (List.Sublist.refl _) ⟨by simp [upd, e0], by simp [upd]; exact step64 hl h, next (by simp [h1]), rfl⟩
  · have : ¬ (i < l.length) := by omega
    simp [e0, e3, this]
    exact fin_plain ⟨by rw [← hd, nm_end h], rfl⟩

def isName (l : List UInt8) : Bool := decide (1 ≤ l.length) && decide (l.length ≤ 20) && decide (nm l 0 = l.length)
theorem spec_isName {l : List UInt8} (hl : l.length ≤ mx) : Fnc Try.prog 78 [.str l] (.bool (isName l)) := by
  refine fn_of c78 (by simp [F78]) fun c => ?_
  unfold F78
  by_cases h1 : (1 : Int) ≤ l.length
  · by_cases h2 : (l.length : Int) ≤ 20
    · simp [h1, h2]
      refine call_fn0 (specName_fn hl) .int fun _ _ => ?_
      by_cases h3 : nm l 0 = l.length
      · simp [h1, h2, h3]
        exact fin_plain ⟨by simp [isName, h3]; omega, rfl⟩
      · have h3' : ¬ (nm l 0 : Int) = l.length := by omega
        simp [h1, h2, h3']
        exact fin_plain ⟨by simp [isName, h3], rfl⟩
    · simp [h1, h2]
      exact fin_plain ⟨by simp [isName]; intros; omega, rfl⟩
  · simp [h1]
    exact fin_plain ⟨by simp [isName]; intros; omega, rfl⟩
theorem impl_isName {l : List UInt8} (hl : l.length ≤ mx) : Fnc Try.prog 82 [.str l] (.bool (isName l)) := by
  refine fn_of c82 (by simp [F82]) fun c => ?_
  unfold F82
  by_cases h2 : (l.length : Int) ≤ 20
  · simp [h2]
    refine call_fn0 (implName_fn hl) .int fun _ _ => ?_
    by_cases h3 : nm l 0 = l.length
    · simp [h2, h3]
      refine fin_plain ⟨?_, rfl⟩
      cases l with
      | nil => simp [isName]
      | cons b l => simp [isName, h3]; simp at h2; omega
    · have h3' : ¬ (nm l 0 : Int) = l.length := by omega
      simp [h2, h3']
      exact fin_plain ⟨by simp [isName, h3], rfl⟩
  · simp [h2]
    exact fin_plain ⟨by simp [isName]; intros; omega, rfl⟩
end A
end Go.Proofs.Ytgiiipbpadgcgaa

/-
  AreSessions of the reference and of the program are the same plain function of the list, and the law answers true. No condition.
-/



namespace Go.Proofs.Ytgiiipbpadgcgaa
namespace A
set_option linter.unusedVariables false
set_option linter.unusedSimpArgs false
set_option maxRecDepth 100000

/-- One session by itself. -/
def sessOk (x : TSession) : Bool := isName x.Id && decide (x.Data.length ≤ 2000) && inR x.Holder 0 1000000000000 && inR x.At 0 1000000000000
/-- No name stands twice. -/
def once : List TSession → Bool
  | [] => true
  | x :: l => !(l.map (·.Id)).contains x.Id && once l
def areSessions (l : List TSession) : Bool := l.all sessOk && once l.reverse && decide (l.length ≤ 8)

theorem findS_miss_iff (id : List UInt8) : ∀ (l : List TSession) (i : Nat), (l.map (·.Id)).contains id = false → findS id l i = -1
  | [], i, _ => rfl
  | x :: l, i, h => by
    simp only [List.map_cons, List.contains_cons, Bool.or_eq_false_iff] at h
    unfold findS
    rw [if_neg (by intro e; simp [e] at h)]
    exact findS_miss_iff id l (i + 1) h.2
theorem findS_app {id : List UInt8} (m : List TSession) : ∀ (l : List TSession) (i : Nat), (l.map (·.Id)).contains id = false → findS id (l ++ m) i = findS id m (i + l.length)
  | [], i, _ => by simp
  | x :: l, i, h => by
    simp only [List.map_cons, List.contains_cons, Bool.or_eq_false_iff] at h
    rw [List.cons_append, findS, if_neg (by intro e; simp [e] at h), findS_app m l (i + 1) h.2]
    simp only [List.length_cons]; congr 1; omega
theorem findS_hit_lt {id : List UInt8} (m : List TSession) : ∀ (l : List TSession) (i : Nat), (l.map (·.Id)).contains id = true → findS id (l ++ m) i < i + l.length
  | [], i, h => by simp at h
  | x :: l, i, h => by
    rw [List.cons_append, findS]
    by_cases e : x.Id = id
    · rw [if_pos e]; simp; omega
    · rw [if_neg e]
      have h' : (l.map (·.Id)).contains id = true := by
        simp only [List.map_cons, List.contains_cons, Bool.or_eq_true] at h
        rcases h with h | h
        · exact absurd (by simpa using h : id = x.Id).symm e
        · exact h
      have := findS_hit_lt m l (i + 1) h'
      simp; omega
/-- The first of its name is it itself just if none before has it. -/
theorem find_self {l : List TSession} {i : Nat} (h : i < l.length) : (findS l[i].Id l 0 = i) ↔ ((l.take i).map (·.Id)).contains l[i].Id = false := by
  have e : l = l.take i ++ l.drop i := (List.take_append_drop i l).symm
  have hl : (l.take i).length = i := by simp; omega
  constructor
  · intro hf
    cases hc : ((l.take i).map (·.Id)).contains l[i].Id with
    | false => rfl
    | true =>
      have := findS_hit_lt (l.drop i) (l.take i) 0 hc
      rw [← e, hf, hl] at this
      omega
  · intro hc
    have := findS_app (l.drop i) (l.take i) 0 hc
    rw [← e, hl] at this
    rw [this, List.drop_eq_getElem_cons h, findS, if_pos rfl]
    simp
theorem once_step {l : List TSession} {i : Nat} (h : i < l.length) : once (l.take (i + 1)).reverse = (!((l.take i).map (·.Id)).contains l[i].Id && once (l.take i).reverse) := by
  rw [List.take_succ_eq_append_getElem h, List.reverse_append]
  simp only [List.reverse_cons, List.reverse_nil, List.nil_append, List.singleton_append, once, List.map_reverse]
  congr 2
  rw [Bool.eq_iff_iff]
  simp
/-- Up to an index. -/
def okTo (l : List TSession) (i : Nat) : Bool := (l.take i).all sessOk && once (l.take i).reverse
theorem okTo_step {l : List TSession} {i : Nat} (h : i < l.length) : okTo l (i + 1) = (okTo l i && sessOk l[i] && !((l.take i).map (·.Id)).contains l[i].Id) := by
  unfold okTo
  rw [once_step h, List.take_succ_eq_append_getElem h, List.all_append]
  simp only [List.all_cons, List.all_nil, Bool.and_true]
  cases (l.take i).all sessOk <;> cases sessOk l[i] <;> cases once (l.take i).reverse <;> simp
theorem okTo_mono {l : List TSession} {i : Nat} (h : okTo l i = false) : areSessions l = false := by
  have key : ∀ j, i ≤ j → j ≤ l.length → okTo l j = false := by
    intro j hj
    induction hj with
    | refl => exact fun _ => h
    | step hj ih => intro hl; rw [okTo_step (by omega), ih (by omega)]; simp
  rcases Nat.lt_or_ge i l.length with h1 | h1
  · have := key l.length (Nat.le_of_lt h1) (Nat.le_refl _)
    unfold okTo at this
    rw [List.take_length] at this
    unfold areSessions
    rw [this]; rfl
  · unfold okTo at h
    rw [List.take_of_length_le h1] at h
    unfold areSessions
    rw [h]; rfl
theorem okTo_all {l : List TSession} (h : okTo l l.length = true) : areSessions l = decide (l.length ≤ 8) := by
  unfold okTo at h
  rw [List.take_length] at h
  unfold areSessions
  rw [h]; rfl

theorem spec_areS {s : SL TSession} (hs : okSessionS s) : Fnc Try.prog 20 [s.av 4 TSession.enc] (.bool (areSessions s.list)) := by
  have hn := hs.1
  refine fn_of c20 (by simp [F20]) fun c => ?_
  unfold F20
  simp
  refine loop_drop s.list.length (fun i e H c' => e 0 = s.av 4 TSession.enc ∧ e 3 = .int .i64 i ∧ okTo s.list i = true ∧ H = []) ⟨rfl, rfl, rfl, rfl⟩ ?_
  intro i e H c hi ⟨e0, e3, hall, hH⟩ N hN
  subst hH
  simp [e0, e3]
  refine ⟨fun h => ⟨s.list[i], List.getElem?_eq_getElem h, ?_⟩, fun h => ?_⟩
  · have hst := okTo_step h
    have hself := find_self h
    have hok := hs.2 _ (List.getElem_mem h)
    rw [hall] at hst
    generalize hx : s.list[i] = x at hst hself hok
    have bad : (sessOk x && !((s.list.take i).map (·.Id)).contains x.Id) = false → areSessions s.list = false := fun hb => okTo_mono (i := i + 1) (by rw [hst]; simpa using hb)
    simp [e0, e3]
    refine call_fn0 (spec_isName hok.1) .bool fun _ _ => ?_
    cases h1 : isName x.Id
    · simp [e0, e3]; exact fin_plain ⟨by rw [bad (by simp [sessOk, h1])], rfl⟩
    simp [e0, e3]
    refine call_fn0 (spec_find hn) .int fun _ _ => ?_
    by_cases h2 : findS x.Id s.list 0 = i
    rotate_left
    · simp [e0, e3, h2]
      have hc : ((s.list.take i).map (·.Id)).contains x.Id = true := by
        cases hc : ((s.list.take i).map (·.Id)).contains x.Id with
        | true => rfl
        | false => exact absurd (hself.2 hc) h2
      exact fin_plain ⟨by rw [bad (by rw [hc]; simp)], rfl⟩
    have hc := hself.1 h2
    simp [e0, e3, h2]
    by_cases h3 : (2000 : Int) < x.Data.length
    · simp [e0, e3, h3]; exact fin_plain ⟨by rw [bad (by simp [sessOk]; intros; omega)], rfl⟩
    simp [e0, e3, h3]
    refine call_fn0 (l1In_fn _ _ _) .bool fun _ _ => ?_
    cases h4 : inR x.Holder 0 1000000000000
    · simp [e0, e3, h3]; exact fin_plain ⟨by rw [bad (by simp [sessOk, h4])], rfl⟩
    simp [e0, e3, h3]
    refine call_fn0 (l1In_fn _ _ _) .bool fun _ _ => ?_
    cases h5 : inR x.At 0 1000000000000
    · simp [e0, e3, h3]; exact fin_plain ⟨by rw [bad (by simp [sessOk, h5])], rfl⟩
    simp [e0, e3, h3]
    exact hN _ _ _ _ h (List.nil_sublist _) ⟨by simp [upd, e0], by simp [upd]; exact step64 hn h, by rw [hst]; simp only [sessOk, h1, h4, h5, hc]; simp; omega, rfl⟩
  · have : i = s.list.length := by omega
    subst this
    refine fin_plain ⟨?_, rfl⟩
    rw [okTo_all hall]; simp; omega
def seenRow (x : TSession) : List AV := [.str x.Id, .bool true]
theorem mfind_no {id : List UInt8} : ∀ (l : List TSession) (k : Nat), (l.map (·.Id)).contains id = false → mfind (.str id) (l.map seenRow) k = some none
  | [], k, _ => rfl
  | x :: l, k, h => by
    simp only [List.map_cons, List.contains_cons, Bool.or_eq_false_iff] at h
    have e : keyEq (.str id) (.str x.Id) = some false := by simp only [keyEq]; rw [h.1]
    simp only [List.map_cons, seenRow, mfind, e]
    exact mfind_no l (k + 1) h.2
theorem mfind_yes {id : List UInt8} : ∀ (l : List TSession) (k : Nat), (l.map (·.Id)).contains id = true → ∃ j, mfind (.str id) (l.map seenRow) k = some (some (j, .bool true))
  | [], k, h => by simp at h
  | x :: l, k, h => by
    cases e : (id == x.Id) with
    | true =>
      have e' : keyEq (.str id) (.str x.Id) = some true := by simp only [keyEq]; rw [e]
      exact ⟨k, by simp only [List.map_cons, seenRow, mfind, e']⟩
    | false =>
      have e' : keyEq (.str id) (.str x.Id) = some false := by simp only [keyEq]; rw [e]
      simp only [List.map_cons, List.contains_cons, e, Bool.false_or] at h
      obtain ⟨j, hj⟩ := mfind_yes l (k + 1) h
      exact ⟨j, by simp only [List.map_cons, seenRow, mfind, e']; exact hj⟩
theorem lookup_no {H : List AObj} {d : TypeDesc} {z k : AV} {i tag : Nat} {rows : List (List AV)} {w : Nat} {K : AV → Prop} (hd : keyFits d k = true) (ho : H[i]? = some ⟨true, tag, w, rows⟩) (hm : mfind k rows 0 = some none) (h : K z) : lookupW d z false (.mref i tag) k H K :=
  ⟨hd, _, ho, rfl, rfl, by rw [hm]; exact h⟩
theorem lookup_yes {H : List AObj} {d : TypeDesc} {z k v : AV} {i tag j : Nat} {rows : List (List AV)} {w : Nat} {K : AV → Prop} (hd : keyFits d k = true) (ho : H[i]? = some ⟨true, tag, w, rows⟩) (hm : mfind k rows 0 = some (some (j, v))) (h : K v) : lookupW d z false (.mref i tag) k H K :=
  ⟨hd, _, ho, rfl, rfl, by rw [hm]; exact h⟩
theorem mupd_no {H : List AObj} {c : Nat} {d : TypeDesc} {k v : AV} {i tag : Nat} {rows : List (List AV)} {w : Nat} {K : AV → List AObj → Nat → Prop} (hd : keyFits d k = true) (ho : H[i]? = some ⟨true, tag, w, rows⟩) (hm : mfind k rows 0 = some none) (hl : rows.length < mx) (h : K .und (H.set i ⟨true, tag, w, rows ++ [[k, v]]⟩) c) : mupdW d (.mref i tag) k v H c K :=
  ⟨hd, _, ho, rfl, rfl, by rw [hm]; exact ⟨hl, h⟩⟩

def seenRows (l : List TSession) (i : Nat) : List (List AV) := (l.take i).map seenRow
theorem seenRows_step {l : List TSession} {i : Nat} (h : i < l.length) : seenRows l (i + 1) = seenRows l i ++ [seenRow l[i]] := by
  unfold seenRows; rw [List.take_succ_eq_append_getElem h, List.map_append]; rfl
theorem seenRows_len {l : List TSession} {i : Nat} : (seenRows l i).length ≤ i := by unfold seenRows; simp; omega
theorem impl_areS {s : SL TSession} (hs : okSessionS s) : Fnc Try.prog 22 [s.av 4 TSession.enc] (.bool (areSessions s.list)) := by
  have hn := hs.1
  refine fn_of c22 (by simp [F22]) fun c => ?_
  unfold F22
  simp
  refine loop_drop s.list.length (fun i e H c' => e 0 = s.av 4 TSession.enc ∧ e 3 = .mref 0 c ∧ e 7 = s.av 4 TSession.enc ∧ e 8 = .int .i64 s.list.length ∧ e 9 = .int .i64 i ∧ okTo s.list i = true ∧ H = [⟨true, c, 0, seenRows s.list i⟩]) ⟨rfl, rfl, rfl, rfl, rfl, rfl, rfl⟩ ?_
  intro i e H c' hi ⟨e0, e3, e7, e8, e9, hall, hH⟩ N hN
  subst hH
  simp [e0, e3, e7, e8, e9]
  refine ⟨fun h => ⟨s.list[i], List.getElem?_eq_getElem h, ?_⟩, fun h => ?_⟩
  · have hst := okTo_step h
    have hok := hs.2 _ (List.getElem_mem h)
    rw [hall] at hst
    have htk := seenRows_step h
    generalize hx : s.list[i] = x at hst hok htk
    have bad : (sessOk x && !((s.list.take i).map (·.Id)).contains x.Id) = false → areSessions s.list = false := fun hb => okTo_mono (i := i + 1) (by rw [hst]; simpa using hb)
    simp [e0, e3, e7, e8, e9]
    cases hc : ((s.list.take i).map (·.Id)).contains x.Id
    rotate_left
    · obtain ⟨j, hj⟩ : ∃ j, mfind (.str x.Id) (seenRows s.list i) 0 = some (some (j, .bool true)) := mfind_yes _ 0 hc
      refine lookup_yes rfl rfl hj ?_
      simp [e0, e3, e7, e8, e9]
      exact fin_plain ⟨by rw [bad (by rw [hc]; simp)], rfl⟩
    have hm : mfind (.str x.Id) (seenRows s.list i) 0 = some none := mfind_no _ 0 hc
    refine lookup_no rfl rfl hm ?_
    simp [e0, e3, e7, e8, e9]
    refine call_fn0 (impl_isName hok.1) .bool fun _ _ => ?_
    cases h1 : isName x.Id
    · simp [e0, e3, e7, e8, e9]; exact fin_plain ⟨by rw [bad (by simp [sessOk, h1])], rfl⟩
    simp [e0, e3, e7, e8, e9]
    by_cases h3 : (2000 : Int) < x.Data.length
    · simp [e0, e3, e7, e8, e9, h3]; exact fin_plain ⟨by rw [bad (by simp [sessOk]; intros; omega)], rfl⟩
    simp [e0, e3, e7, e8, e9, h3]
    refine call_fn0 (inRange_fn _ _ _) .bool fun _ _ => ?_
    cases h4 : inR x.Holder 0 1000000000000
    · simp [e0, e3, e7, e8, e9, h3]; exact fin_plain ⟨by rw [bad (by simp [sessOk, h4])], rfl⟩
    simp [e0, e3, e7, e8, e9, h3]
    refine call_fn0 (inRange_fn _ _ _) .bool fun _ _ => ?_
    cases h5 : inR x.At 0 1000000000000
    · simp [e0, e3, e7, e8, e9, h3]; exact fin_plain ⟨by rw [bad (by simp [sessOk, h5])], rfl⟩
    simp [e0, e3, e7, e8, e9, h3]
    refine mupd_no rfl rfl hm (by have := seenRows_len (l := s.list) (i := i); omega) ?_
    simp [e0, e3, e7, e8, e9, h3]
    exact hN _ _ _ _ h (sub_one _ _) ⟨by simp [upd, e0], by simp [upd, e3], by simp [upd, e7], by simp [upd, e8], by simp [upd]; exact step64 hn h, by rw [hst]; simp only [sessOk, h1, h4, h5, hc]; simp; omega, by rw [htk]; rfl⟩
  · have : i = s.list.length := by omega
    subst this
    refine fin_plain ⟨?_, rfl⟩
    rw [okTo_all hall]; simp; omega

theorem law_areS {s : SL TSession} (hs : okSessionS s) (c : Nat) : Con Try.prog 3 [s.av 4 TSession.enc] [] c fun r H' _ => r = .bool true ∧ H' = [] := by
  refine con_of c3 (by simp [F3]) ?_
  unfold F3
  simp
  refine call_fn0 (szSessionS_fn hs ⟨by omega, by omega⟩) .int fun _ _ => ?_
  simp
  refine ⟨fun _ => fin_plain ⟨rfl, rfl⟩, fun h => ?_⟩
  have hz : szSessionS s ≤ 1048576 := by have := (szOf_ge h).2; omega
  have hok : ∀ b : SL TSession, b.list = s.list → okSessionS b := fun b hb => by unfold okSessionS at hs ⊢; rw [hb]; exact hs
  refine call_tree0 (toSessionS_fn hz) fun r1 _ _ ⟨b1, e1, q1⟩ _ => ?_
  subst e1
  have q1 := sessCon q1
  simp
  refine call_fn0 (spec_areS (hok _ q1)) .bool fun _ _ => ?_
  simp
  refine call_tree0 (toSessionS_fn hz) fun r2 _ _ ⟨b2, e2, q2⟩ _ => ?_
  subst e2
  have q2 := sessCon q2
  simp
  refine call_fn0 (impl_areS (hok _ q2)) .bool fun _ _ => ?_
  simp [q1, q2]
  refine call_tree0 (toSessionS_fn hz) fun r3 _ _ ⟨b3, e3, q3⟩ _ => ?_
  subst e3
  have q3 := sessCon q3
  simp
  refine call_fn0 (eqSessionS_fn (by unfold szSessionS at hz ⊢; rw [q2]; omega) (by rw [q2, q3])) .bool fun _ _ => ?_
  simp
  exact fin_plain ⟨rfl, rfl⟩
end A
end Go.Proofs.Ytgiiipbpadgcgaa

/-
  OpenSession of the reference and of the program are the same plain function. No condition.
-/


namespace Go.Proofs.Ytgiiipbpadgcgaa
namespace A
set_option linter.unusedVariables false
set_option linter.unusedSimpArgs false
set_option maxRecDepth 100000

/-- What opening answers: the list, the data, the code. -/
def openS (id : List UInt8) (who now : Int) (l : List TSession) : List TSession × List UInt8 × Int :=
  if isName id && areSessions l && inR who 1 1000000000000 && inR now 0 1000000000000 then
    match findS id l 0 with
    | .ofNat k => (match l[k]? with
      | some x => if x.Holder = 0 then (l.set k { x with Holder := who }, x.Data, 0) else (l, [], 2)
      | none => (l, [], 1))
    | _ => if 8 ≤ l.length then (l, [], 3) else (l ++ [⟨id, [], who, now⟩], [], 0)
  else (l, [], 1)

def OpenQ (id : List UInt8) (who now : Int) (l : List TSession) (x : SL TSession) (r : List AV) : Prop := x.list = (openS id who now l).1 ∧ r = [.str (openS id who now l).2.1, .int .i64 (openS id who now l).2.2]

theorem openS_bad {id : List UInt8} {who now : Int} {l : List TSession} (h : (isName id && areSessions l && inR who 1 1000000000000 && inR now 0 1000000000000) = false) : openS id who now l = (l, [], 1) := by
  unfold openS; rw [h]; rfl
theorem openS_at {id : List UInt8} {who now : Int} {l : List TSession} {k : Nat} (h : (isName id && areSessions l && inR who 1 1000000000000 && inR now 0 1000000000000) = true) (hk : findS id l 0 = k) (hl : k < l.length) :
    openS id who now l = if l[k].Holder = 0 then (l.set k { l[k] with Holder := who }, l[k].Data, 0) else (l, [], 2) := by
  unfold openS; rw [if_pos h, hk]; simp [hl]
theorem openS_no {id : List UInt8} {who now : Int} {l : List TSession} (h : (isName id && areSessions l && inR who 1 1000000000000 && inR now 0 1000000000000) = true) (hk : findS id l 0 < 0) :
    openS id who now l = if 8 ≤ l.length then (l, [], 3) else (l ++ [⟨id, [], who, now⟩], [], 0) := by
  have : findS id l 0 = -1 := by rcases findS_range id l 0 with h1 | h1 <;> omega
  unfold openS; rw [if_pos h, this]; rfl

theorem spec_openO {s : SL TSession} {id : List UInt8} {who now : Int} (hs : okSessionS s) (hid : id.length ≤ mx) (hn : s.list.length ≤ 1048576) (c : Nat) :
    Con Try.prog 64 [s.av 4 TSession.enc, .str id, .int .i64 who, .int .i64 now] [] c fun r O _ => ∃ (x : SL TSession) (l : List AV), r = .tup (x.ref 4 :: l) ∧ O = x.wood 4 TSession.enc noInn ∧ OpenQ id who now s.list x l := by
  refine con_of c64 (by simp [F64]) ?_
  unfold F64
  simp
  refine ⟨by omega, by unfold mx; omega, ?_⟩
  refine call_fn0 (spec_find hs.1) .int fun _ _ => ?_
  simp
  refine call_fn0 (spec_isName hid) .bool fun _ _ => ?_
  have fin : ∀ c' (cd : Int) (dt : List UInt8), (s.list, dt, cd) = openS id who now s.list → finW (fun r O _ => ∃ (x : SL TSession) (l : List AV), r = .tup (x.ref 4 :: l) ∧ O = x.wood 4 TSession.enc noInn ∧ OpenQ id who now s.list x l)
      (.tup [.ref 0 (c + 1) 4 s.list.length, .str dt, .int .i64 cd]) [⟨false, c + 1, 4, s.list.map TSession.enc⟩] c' := fun c' cd dt hb => fin_all ⟨.mk (c + 1) s.list, [.str dt, .int .i64 cd], rfl, by simp [flat_wood], by unfold OpenQ; rw [← hb]; exact ⟨rfl, rfl⟩⟩
  cases h1 : isName id
  · simp
    exact fin _ _ _ (openS_bad (by simp [h1])).symm
  simp
  refine call_fn0 (spec_areS hs) .bool fun _ _ => ?_
  cases h2 : areSessions s.list
  · simp
    exact fin _ _ _ (openS_bad (by simp [h2])).symm
  simp
  refine call_fn0 (l1In_fn _ _ _) .bool fun _ _ => ?_
  cases h3 : inR who 1 1000000000000
  · simp
    exact fin _ _ _ (openS_bad (by simp [h3])).symm
  simp
  refine call_fn0 (l1In_fn _ _ _) .bool fun cc _ => ?_
  cases h4 : inR now 0 1000000000000
  · simp
    exact fin _ _ _ (openS_bad (by simp [h4])).symm
  have hg : (isName id && areSessions s.list && inR who 1 1000000000000 && inR now 0 1000000000000) = true := by simp [h1, h2, h3, h4]
  by_cases h0 : 0 ≤ findS id s.list 0
  · obtain ⟨k, hk, hkl⟩ := findS_nat h0
    have ho := openS_at hg hk hkl
    have hgk : s.list[k]? = some s.list[k] := List.getElem?_eq_getElem hkl
    simp [hk]
    refine ⟨_, hgk, ?_⟩
    by_cases h5 : s.list[k].Holder = 0
    · simp [hk, h5, hkl]
      rw [if_pos h5] at ho
      refine ⟨_, hgk, ?_⟩
      simp [hk, h5, hkl, putA]
      refine ⟨_, hgk, ?_⟩
      simp [hk, h5, hkl]
      exact fin_all ⟨.mk (c + 1) (openS id who now s.list).1, _, by simp [SL.ref, ho]; rfl, by simp [flat_wood, ho, List.map_set, TSession.enc], by unfold OpenQ; rw [ho]; exact ⟨rfl, rfl⟩⟩
    · simp [hk, h5]
      exact fin _ _ _ (by rw [ho, if_neg h5])
  · have h0' : findS id s.list 0 < 0 := by omega
    have ho := openS_no hg h0'
    have h0'' : ¬ (0 ≤ findS id s.list 0) := h0
    by_cases h5 : (8 : Int) ≤ s.list.length
    · simp [h0, h5]
      exact fin _ _ _ (by rw [ho, if_pos (by omega)])
    · have hm1 : s.list.length + 1 ≤ mx := by unfold mx; omega
      have hm2 : (s.list.length + 1) * 48 ≤ 140737488355328 := by omega
      simp [h0, h5, putA, hm1, hm2]
      refine fin_sub (sub_one _ _) (.refl _) ⟨.mk (cc + 1) (openS id who now s.list).1, [.str [], .int .i64 0], by rw [ho, if_neg (by omega)]; simp [SL.ref], by rw [ho, if_neg (by omega)]; simp [flat_wood, TSession.enc], by unfold OpenQ; rw [ho, if_neg (by omega)]; exact ⟨rfl, rfl⟩⟩

theorem impl_openO {s : SL TSession} {id : List UInt8} {who now : Int} (hs : okSessionS s) (hid : id.length ≤ mx) (hn : s.list.length ≤ 1048576) (c : Nat) :
    Con Try.prog 57 [s.av 4 TSession.enc, .str id, .int .i64 who, .int .i64 now] [] c fun r O _ => ∃ (x : SL TSession) (l : List AV), r = .tup (x.ref 4 :: l) ∧ O = x.wood 4 TSession.enc noInn ∧ OpenQ id who now s.list x l := by
  refine con_of c57 (by simp [F57]) ?_
  unfold F57
  simp
  refine call_new (cloneSO hn _) (Views.refl _ _) fun r O c1 hc ⟨x, hr, hO, hx⟩ _ _ => ?_
  subst hr
  refine ⟨_, .refl _, free_ref _ _ _, fun o ho => by subst hO; exact flat_free TSession.flat _ _ o ho _, ?_⟩
  simp
  refine call_fn (impl_isName hid) (Views.refl _ _) .bool fun _ _ => ?_
  have fin : ∀ c' (cd : Int) (dt : List UInt8), (s.list, dt, cd) = openS id who now s.list → finW (fun r O _ => ∃ (x : SL TSession) (l : List AV), r = .tup (x.ref 4 :: l) ∧ O = x.wood 4 TSession.enc noInn ∧ OpenQ id who now s.list x l)
      (.tup [x.ref 4, .str dt, .int .i64 cd]) O c' := fun c' cd dt hb => fin_all ⟨x, [.str dt, .int .i64 cd], rfl, hO, by unfold OpenQ; rw [← hb]; exact ⟨hx, rfl⟩⟩
  cases h1 : isName id
  · simp
    exact fin _ _ _ (openS_bad (by simp [h1])).symm
  simp
  refine call_fn (impl_areS hs) (Views.refl _ _) .bool fun _ _ => ?_
  cases h2 : areSessions s.list
  · simp
    exact fin _ _ _ (openS_bad (by simp [h2])).symm
  simp
  refine call_fn (inRange_fn _ _ _) (Views.refl _ _) .bool fun _ _ => ?_
  cases h3 : inR who 1 1000000000000
  · simp
    exact fin _ _ _ (openS_bad (by simp [h3])).symm
  simp
  refine call_fn (inRange_fn _ _ _) (Views.refl _ _) .bool fun _ _ => ?_
  cases h4 : inR now 0 1000000000000
  · simp
    exact fin _ _ _ (openS_bad (by simp [h4])).symm
  simp
  refine call_fn (impl_find hs.1) (Views.refl _ _) .int fun cc _ => ?_
  have hg : (isName id && areSessions s.list && inR who 1 1000000000000 && inR now 0 1000000000000) = true := by simp [h1, h2, h3, h4]
  by_cases h0 : 0 ≤ findS id s.list 0
  · obtain ⟨k, hk, hkl⟩ := findS_nat h0
    have ho := openS_at hg hk hkl
    have hgk : s.list[k]? = some s.list[k] := List.getElem?_eq_getElem hkl
    simp [hk]
    refine ⟨_, hgk, ?_⟩
    by_cases h5 : s.list[k].Holder = 0
    · rw [if_pos h5] at ho
      cases x with
      | nil => rw [← hx] at hkl; simp at hkl
      | mk t l =>
        simp only [SL.list_mk] at hx
        subst hx
        rw [flat_wood] at hO
        subst hO
        simp [hk, h5, hkl, putA, ref_mk]
        refine ⟨_, hgk, ?_⟩
        simp [hk, h5, hkl, TSession.enc]
        exact fin_all ⟨.mk t (openS id who now s.list).1, [.str s.list[k].Data, .int .i64 0], by simp [SL.ref, ho], by simp [flat_wood, ho, List.map_set, TSession.enc], by unfold OpenQ; rw [ho]; exact ⟨rfl, rfl⟩⟩
    · simp [hk, h5]
      exact fin _ _ _ (by rw [ho, if_neg h5])
  · have h0' : findS id s.list 0 < 0 := by omega
    have ho := openS_no hg h0'
    by_cases h5 : (8 : Int) ≤ s.list.length
    · simp [h0, h5]
      exact fin _ _ _ (by rw [ho, if_pos (by omega)])
    · have hm1 : s.list.length + 1 ≤ mx := by unfold mx; omega
      have hm2 : (s.list.length + 1) * 48 ≤ 140737488355328 := by omega
      cases x with
      | nil =>
        have hx' : s.list = [] := hx.symm
        have hO' : O = [] := hO
        subst hO'
        rw [hx'] at h0
        simp [h0, putA, ref_nil, hx']
        have : 1 ≤ mx := by decide
        exact ⟨this, fin_sub (v' := .tup [.ref 0 (cc + 1) 4 1, .str [], .int .i64 0]) (List.sublist_cons_self _ _) (view_tup (.cons .name (Views.refl _ _))) ⟨.mk (cc + 1) [⟨id, [], who, now⟩], [.str [], .int .i64 0], rfl, by simp [flat_wood, TSession.enc], by rw [hx'] at ho; unfold OpenQ; rw [ho, if_neg (by simp)]; exact ⟨rfl, rfl⟩⟩⟩
      | mk t l =>
        simp only [SL.list_mk] at hx
        subst hx
        rw [flat_wood] at hO
        subst hO
        simp [h0, h5, putA, hm1, hm2, ref_mk]
        refine fin_sub (sub_one _ _) (.refl _) ⟨.mk (cc + 1) (openS id who now s.list).1, [.str [], .int .i64 0], by rw [ho, if_neg (by omega)]; simp [SL.ref], by rw [ho, if_neg (by omega)]; simp [flat_wood, TSession.enc], by unfold OpenQ; rw [ho, if_neg (by omega)]; exact ⟨rfl, rfl⟩⟩
theorem openF {id : List UInt8} {who now : Int} {l : List TSession} (x : SL TSession) (r : List AV) (h : OpenQ id who now l x r) : ∀ a, a ∈ r → Free a := fun a ha => by
  rw [h.2] at ha; simp at ha
  rcases ha with rfl | rfl
  · exact free_str _
  · exact free_int _ _
theorem spec_open {s : SL TSession} {id : List UInt8} {who now : Int} (hs : okSessionS s) (hid : id.length ≤ mx) (hn : s.list.length ≤ 1048576) : Tr Try.prog 64 [s.av 4 TSession.enc, .str id, .int .i64 who, .int .i64 now] fun _ r => ∃ (x : SL TSession) (l : List AV), r = .tup (x.av 4 TSession.enc :: l) ∧ OpenQ id who now s.list x l :=
  flat_tr2 TSession.flat openF (spec_openO hs hid hn)
theorem impl_open {s : SL TSession} {id : List UInt8} {who now : Int} (hs : okSessionS s) (hid : id.length ≤ mx) (hn : s.list.length ≤ 1048576) : Tr Try.prog 57 [s.av 4 TSession.enc, .str id, .int .i64 who, .int .i64 now] fun _ r => ∃ (x : SL TSession) (l : List AV), r = .tup (x.av 4 TSession.enc :: l) ∧ OpenQ id who now s.list x l :=
  flat_tr2 TSession.flat openF (impl_openO hs hid hn)
theorem len_open {id : List UInt8} {who now : Int} (l : List TSession) : (openS id who now l).1.length ≤ l.length + 1 := by
  unfold openS
  split
  · split
    · split
      · split <;> simp
      · simp
    · split <;> simp
  · simp
theorem szL_app {α : Type} (sz : α → Nat) (l m : List α) : szL sz (l ++ m) = szL sz l + szL sz m := by simp [szL]
theorem size_open {id : List UInt8} {who now : Int} (l : List TSession) : (openS id who now l).1.length + szL TSession.sz (openS id who now l).1 ≤ l.length + 1 + (2 * szL TSession.sz l + id.length) := by
  unfold openS
  split
  · split
    · rename_i k hk
      split
      · rename_i x hx
        split
        · have h1 := szL_set TSession.sz { x with Holder := who } l k
          have h2 := szL_mem (sz := TSession.sz) (List.mem_of_getElem? hx)
          have h3 : TSession.sz { x with Holder := who } = TSession.sz x := rfl
          simp; omega
        · simp; omega
      · simp; omega
    · split
      · simp; omega
      · have h3 : TSession.sz ⟨id, [], who, now⟩ = id.length := rfl
        simp only [szL_app]
        simp [szL, h3]; omega
  · simp; omega
end A
end Go.Proofs.Ytgiiipbpadgcgaa

/-
  The list of sessions that is drawn. No condition.
-/



namespace Go.Proofs.Ytgiiipbpadgcgaa
namespace A
set_option linter.unusedVariables false
set_option linter.unusedSimpArgs false
set_option maxRecDepth 100000

theorem view_flat_at {α : Type} {enc : α → List AV} {S : List AObj} {w i : Nat} {s : SL α} (hs : ∀ o, o ∈ s.wood w enc noInn → o ∈ S) (hc : ∀ x a, a ∈ enc x → a.cell = true) : View S (s.at_ i w) (s.av w enc) := by
  cases s with
  | nil => exact .refl _
  | mk t l =>
    exact .ref (rows := l.map enc) (hs _ (by rw [flat_wood]; simp)) (by simp) (by simp) (fun r x x' h1 h2 => by rw [h1] at h2; cases h2; rfl)
      (fun r j x a hx ha => by
        obtain ⟨y, _, rfl⟩ := List.mem_map.1 (List.mem_of_getElem? hx)
        exact hc y a (List.mem_of_getElem? ha))
      (fun r j x x' a a' h1 h2 h3 h4 => by rw [h1] at h2; cases h2; rw [h3] at h4; cases h4; exact .refl _)
theorem free_at {α : Type} (i w : Nat) (s : SL α) : Free (s.at_ i w) := fun T => by cases s <;> constructor
theorem view_at_at {α : Type} (i j w : Nat) (s : SL α) (S : List AObj) : View S (s.at_ i w) (s.at_ j w) := by cases s <;> constructor

def smallS (k : Nat) (l : List TSession) : Prop := l.length ≤ k ∧ ∀ x, x ∈ l → x.Id.length ≤ 64 ∧ x.Data.length ≤ 64
theorem save_small {k : Nat} {l : List TSession} {id data : List UInt8} {who now : Int} (h : smallS k l) (h1 : id.length ≤ 16) (h2 : data.length ≤ 16) : smallS k (saveS id who data now l) := by
  unfold saveS
  split
  · refine ⟨by simpa using h.1, fun x hx => ?_⟩
    rcases List.mem_or_eq_of_mem_set hx with hx | rfl
    · exact h.2 x hx
    · exact ⟨by show id.length ≤ 64; omega, by show data.length ≤ 64; omega⟩
  · exact h
theorem open_small {k : Nat} {l : List TSession} {id : List UInt8} {who now : Int} (h : smallS k l) (h1 : id.length ≤ 16) : smallS (k + 1) (openS id who now l).1 := by
  have h' : smallS (k + 1) l := ⟨by have := h.1; omega, h.2⟩
  unfold openS
  split
  · split
    · split
      · rename_i x hx
        split
        · refine ⟨by have := h.1; simp; omega, fun y hy => ?_⟩
          rcases List.mem_or_eq_of_mem_set hy with hy | rfl
          · exact h.2 y hy
          · exact h.2 x (List.mem_of_getElem? hx)
        · exact h'
      · exact h'
    · split
      · exact h'
      · refine ⟨by have := h.1; simp; omega, fun y hy => ?_⟩
        rcases List.mem_append.1 hy with hy | hy
        · exact h.2 y hy
        · simp at hy; subst hy; exact ⟨by show id.length ≤ 64; omega, by simp⟩
  · exact h'
theorem small_ok {k : Nat} {s : SL TSession} (h : smallS k s.list) (hk : k ≤ 64) : okSessionS s := ⟨by have := h.1; unfold mx; omega, fun x hx => ⟨by have := (h.2 x hx).1; unfold mx; omega, by have := (h.2 x hx).2; unfold mx; omega⟩⟩

/-- The list under way. -/
def LiveS (t : Nat) (s : SL Int) (k : Nat) (v : AV) (H : List AObj) : Prop := ∃ (b : SL TSession) (J : List AObj) (i : Nat) (h : Int), v = b.at_ (J.length + 1) 4 ∧ H = cur t s i h :: (J ++ b.wood 4 TSession.enc noInn) ∧ i ≤ s.list.length ∧ smallS k b.list

/-- The list that is drawn. -/
def LiveF (t : Nat) (s : SL Int) (v : AV) (H : List AObj) : Prop := ∃ (b : SL TSession) (i : Nat) (h : Int), v = b.at_ 1 4 ∧ H = cur t s i h :: b.wood 4 TSession.enc noInn ∧ i ≤ s.list.length ∧ smallS 16 b.list

theorem append_at {b : SL TSession} {J : List AObj} {a : AObj} {x : TSession} {tn c : Nat} {K : AV → List AObj → Nat → Prop} (hb : b.list.length ≤ 64)
    (k : ∀ (b' : SL TSession) (J' H' : List AObj), b'.list = b.list ++ [x] → (a :: (J' ++ b'.wood 4 TSession.enc noInn)).Sublist H' → K (b'.at_ (J'.length + 1) 4) H' (c + 1)) :
    appendW 4 48 (b.at_ (J.length + 1) 4) (.ref (J.length + (b.wood 4 TSession.enc noInn).length + 1) tn 4 1) (a :: (J ++ (b.wood 4 TSession.enc noInn ++ [⟨false, tn, 4, [x.enc]⟩]))) c K := by
  have hg : (a :: (J ++ (b.wood 4 TSession.enc noInn ++ [⟨false, tn, 4, [x.enc]⟩])))[J.length + (b.wood 4 TSession.enc noInn).length + 1]? = some ⟨false, tn, 4, [x.enc]⟩ := by
    rw [List.getElem?_cons_succ, List.getElem?_append_right (by omega), List.getElem?_append_right (by omega)]
    simp
  refine ⟨rfl, _, hg, rfl, rfl, rfl, by simp, ?_⟩
  cases b with
  | nil =>
    refine ⟨fun h => by simp at h, fun _ => ⟨by simp, by unfold mx; simp, ?_⟩⟩
    have := k (.mk c [x]) (J ++ [⟨false, tn, 4, [x.enc]⟩]) _ rfl (List.Sublist.refl _)
    have ew : (SL.mk c [x]).wood 4 TSession.enc noInn = [⟨false, c, 4, [x.enc]⟩] := flat_wood ..
    have en : (SL.nil : SL TSession).wood 4 TSession.enc noInn = [] := rfl
    rw [ew] at this
    simpa [SL.at_, en] using this
  | mk tb l =>
    have hl : l.length ≤ 64 := hb
    have hg' : (a :: (J ++ ((SL.mk tb l).wood 4 TSession.enc noInn ++ [⟨false, tn, 4, [x.enc]⟩])))[J.length + 1]? = some ⟨false, tb, 4, l.map TSession.enc⟩ := by
      rw [List.getElem?_cons_succ, List.getElem?_append_right (by omega), flat_wood]
      simp
    refine ⟨rfl, _, hg', rfl, rfl, rfl, by simp, by simp; omega, by simp; unfold mx; omega, ?_⟩
    have := k (.mk c (l ++ [x])) J ((a :: (J ++ ((SL.mk tb l).wood 4 TSession.enc noInn ++ [⟨false, tn, 4, [x.enc]⟩]))).set (J.length + 1) ⟨false, c, 4, l.map TSession.enc ++ [x.enc]⟩) rfl (by
      rw [List.set_cons_succ, List.set_append_right _ _ (by omega), flat_wood, flat_wood]
      simp)
    simpa [SL.at_] using this

theorem l37Draw_con {t i : Nat} {h : Int} {s : SL Int} (hi : i ≤ s.list.length) (hn : s.list.length ≤ 1048576) (c : Nat) :
    Con Try.prog 93 [.ptr 0 t 3 0 0] [cur t s i h] c fun r O _ => LiveF t s r O := by
  refine con_of c93 (by simp [F93]) ?_
  unfold F93
  simp
  refine call_num (l1Below_con hi hn (by omega) _) fun x i1 h1 c1 _ x0 x1 k1 => ?_
  rw [if_neg (by omega)] at x1
  obtain ⟨x, rfl⟩ := Int.eq_ofNat_of_zero_le x0
  simp
  refine loop_drop x (fun j e H c' => e 0 = .ptr 0 t 3 0 0 ∧ e 4 = .int .i64 (x - j : Nat) ∧ LiveS t s j (e 3) H) ⟨rfl, rfl, .mk c [], [], i1, h1, rfl, rfl, k1, by simp [smallS]⟩ ?_
  intro j e H c' hj ⟨e0, e4, b, J, i2, h2, e3, hH, k2, hb⟩ N hN
  subst hH
  have hbl : b.list.length ≤ 1048576 := by have := hb.1; omega
  by_cases hd : x - j = 0
  · simp [e0, e3, e4, hd]
    have hj7 : j ≤ 7 := by omega
    refine loop_drop 8 (fun m e H c' => e 0 = .ptr 0 t 3 0 0 ∧ ∃ (b : SL TSession) (J : List AObj) (i : Nat) (h : Int), e 3 = b.at_ (J.length + 1) 4 ∧ H = cur t s i h :: (J ++ b.wood 4 TSession.enc noInn) ∧ i ≤ s.list.length ∧ smallS 8 b.list ∧ m ≤ b.list.length) ⟨by simp [upd, e0], b, J, i2, h2, by simp [upd, e3], rfl, k2, ⟨by have := hb.1; omega, hb.2⟩, by omega⟩ ?_
    intro m e H c' hm ⟨e0, b, J, i2, h2, e3, hH, k2, hb, hml⟩ N hN
    subst hH
    simp [e0, e3]
    refine call_bool (l1Once_con (n := 12) k2 hn (by omega) _) fun q i3 h3 c3 _ k3 => ?_
    have thr : ∀ e' : Env, e' 0 = .ptr 0 t 3 0 0 → True := fun _ _ => trivial
    cases q
    · simp [e0, e3]
      refine call_bool (l1Once_con (n := 12) k3 hn (by omega) _) fun q i4 h4 c4 _ k4 => ?_
      have fin : ∀ c', finW (fun r O _ => LiveF t s r O) (b.at_ (J.length + 1) 4) (cur t s i4 h4 :: (J ++ b.wood 4 TSession.enc noInn)) c' := fun c' => fin_sub (Hk := cur t s i4 h4 :: b.wood 4 TSession.enc noInn) ((List.sublist_append_right _ _).cons_cons _) (view_at_at _ 1 _ _ _) ⟨b, i4, h4, rfl, rfl, k4, by have := hb.1; omega, hb.2⟩
      cases q
      · simp [e0, e3]
        exact fin _
      · by_cases h9 : 0 < b.list.length
        · simp [e0, e3, h9]
          refine call_any (l1Odd_con k4 hn _) fun od i5 h5 c5 _ k5 => ?_
          cases b with
          | nil => simp at h9
          | mk tb l =>
            cases l with
            | nil => simp at h9
            | cons y l =>
              simp [e0, e3, SL.at_, flat_wood]
              refine fin_sub (Hk := cur t s i5 h5 :: (SL.mk tb ({ y with At := od } :: l)).wood 4 TSession.enc noInn) ?_ (view_at_at (J.length + 1) 1 4 (SL.mk tb ({ y with At := od } :: l)) _) ⟨.mk tb ({ y with At := od } :: l), i5, h5, rfl, rfl, k5, by have := hb.1; simp at this ⊢; omega, fun w hw => ?_⟩
              · rw [flat_wood]; exact (List.sublist_append_right _ _).cons_cons _
              rcases List.mem_cons.1 hw with rfl | hw
              · exact hb.2 y (List.mem_cons_self ..)
              · exact hb.2 w (List.mem_cons_of_mem _ hw)
        · simp [e0, e3, h9]
          exact fin _
    · by_cases h8 : (b.list.length : Int) < 8
      · obtain ⟨fx, hfl, hfn⟩ := fmtDigit (n := b.list.length) (by omega)
        have hmx : ([122] : List UInt8).length + fx.length ≤ mx := by simp; unfold mx; omega
        simp [e0, e3, h8]
        refine call_fn hfn (Views.refl _ _) .str fun _ _ => ?_
        simp [e0, e3, h8, hmx, putA]
        refine ⟨by simpa [Nat.add_comm] using hmx, ?_⟩
        refine append_at (x := ⟨122 :: fx, [], 0, 0⟩) (by have := hb.1; omega) fun b' J' H' hb' hsub => ?_
        simp [e0, e3]
        have hm8 : m < 8 := by omega
        refine hN _ _ _ _ hm8 hsub ⟨by simp [upd, e0], b', J', i3, h3, by simp [upd], rfl, k3, ⟨by rw [hb']; simp; omega, fun y hy => ?_⟩, by rw [hb']; simp; omega⟩
        rw [hb'] at hy
        rcases List.mem_append.1 hy with hy | hy
        · exact hb.2 y hy
        · simp at hy; subst hy; exact ⟨by show (122 :: fx).length ≤ 64; simp; omega, by simp⟩
      · simp [e0, e3, h8]
        refine call_bool (l1Once_con (n := 12) k3 hn (by omega) _) fun q i4 h4 c4 _ k4 => ?_
        have fin : ∀ c', finW (fun r O _ => LiveF t s r O) (b.at_ (J.length + 1) 4) (cur t s i4 h4 :: (J ++ b.wood 4 TSession.enc noInn)) c' := fun c' => fin_sub (Hk := cur t s i4 h4 :: b.wood 4 TSession.enc noInn) ((List.sublist_append_right _ _).cons_cons _) (view_at_at _ 1 _ _ _) ⟨b, i4, h4, rfl, rfl, k4, by have := hb.1; omega, hb.2⟩
        cases q
        · simp [e0, e3]
          exact fin _
        · by_cases h9 : 0 < b.list.length
          · simp [e0, e3, h9]
            refine call_any (l1Odd_con k4 hn _) fun od i5 h5 c5 _ k5 => ?_
            cases b with
            | nil => simp at h9
            | mk tb l =>
              cases l with
              | nil => simp at h9
              | cons y l =>
                simp [e0, e3, SL.at_, flat_wood]
                refine fin_sub (Hk := cur t s i5 h5 :: (SL.mk tb ({ y with At := od } :: l)).wood 4 TSession.enc noInn) ?_ (view_at_at (J.length + 1) 1 4 (SL.mk tb ({ y with At := od } :: l)) _) ⟨.mk tb ({ y with At := od } :: l), i5, h5, rfl, rfl, k5, by have := hb.1; simp at this ⊢; omega, fun w hw => ?_⟩
                · rw [flat_wood]; exact (List.sublist_append_right _ _).cons_cons _
                rcases List.mem_cons.1 hw with rfl | hw
                · exact hb.2 y (List.mem_cons_self ..)
                · exact hb.2 w (List.mem_cons_of_mem _ hw)
          · simp [e0, e3, h9]
            exact fin _
  · have hjx : j < x := by omega
    have hdec : IntKind.i64.wrap (((x - j : Nat) : Int) - 1) = ((x - (j + 1) : Nat) : Int) := by rw [wrap64 (by omega) (by omega)]; omega
    have hp : 0 < x - j := by omega
    simp [e0, e3, e4, hp, hd]
    refine call_num (l1Below_con (n := 3) k2 hn (by omega) _) fun y i3 h3 c3 _ y0 y1 k3 => ?_
    by_cases hy : y = 0
    · simp [e0, e3, e4, hp, hd, hy]
      refine call_text (l37Id_con k3 hn _) fun w1 i4 h4 c4 _ l1 k4 => ?_
      simp [e0, e3, e4, hp, hd, hy]
      refine call_num (l1Below_con (n := 2) k4 hn (by omega) _) fun z i5 h5 c5 _ z0 z1 k5 => ?_
      simp [e0, e3, e4, hp, hd, hy]
      refine call_text (l5Word_con k5 hn _) fun w2 i6 h6 c6 _ l2 k6 => ?_
      simp [e0, e3, e4, hp, hd, hy]
      refine call_num (l1Below_con (n := 30) k6 hn (by omega) _) fun u i7 h7 c7 _ u0 u1 k7 => ?_
      simp [e0, e3, e4, hp, hd, hy]
      refine call_new (spec_saveO (s := b) hbl _) (.cons (view_flat_at (fun o ho => List.mem_cons_of_mem _ (List.mem_append_right _ ho)) TSession.flat.cells) (Views.refl _ _)) fun r O c8 _ ⟨b', l, hr, hO, hx, hl⟩ _ _ => ?_
      subst hr; subst hO; subst hl
      refine ⟨.tup (b'.at_ ((J ++ b.wood 4 TSession.enc noInn).length + 1) 4 :: _), view_tup (.cons (view_at _ _ _ _) (Views.refl _ _)), free_tup (by simp [free_at, free_bool]) _, fun o ho => flat_free TSession.flat _ _ o ho _, ?_⟩
      simp [e0, e3, e4, hp, hd, hy]
      refine hN _ _ _ _ hjx (List.Sublist.refl _) ⟨by simp [upd, e0], by simp [upd, hdec], b', J ++ b.wood 4 TSession.enc noInn, i7, h7, by simp [upd], by simp, k7, ?_⟩
      rw [hx]
      have := save_small (id := w1) (data := w2) (who := IntKind.i64.wrap (1 + z)) (now := u) hb l1 l2
      exact ⟨by have := this.1; omega, this.2⟩
    · simp [e0, e3, e4, hp, hd, hy]
      refine call_text (l37Id_con k3 hn _) fun w1 i4 h4 c4 _ l1 k4 => ?_
      simp [e0, e3, e4, hp, hd, hy]
      refine call_num (l1Below_con (n := 3) k4 hn (by omega) _) fun z i5 h5 c5 _ z0 z1 k5 => ?_
      simp [e0, e3, e4, hp, hd, hy]
      refine call_num (l1Below_con (n := 30) k5 hn (by omega) _) fun u i7 h7 c7 _ u0 u1 k7 => ?_
      simp [e0, e3, e4, hp, hd, hy]
      refine call_new (spec_openO (s := b) (small_ok hb (by omega)) (by unfold mx; omega) hbl _) (.cons (view_flat_at (fun o ho => List.mem_cons_of_mem _ (List.mem_append_right _ ho)) TSession.flat.cells) (Views.refl _ _)) fun r O c8 _ ⟨b', l, hr, hO, hx, hl⟩ _ _ => ?_
      subst hr; subst hO; subst hl
      refine ⟨.tup (b'.at_ ((J ++ b.wood 4 TSession.enc noInn).length + 1) 4 :: _), view_tup (.cons (view_at _ _ _ _) (Views.refl _ _)), free_tup (by simp [free_at, free_str, free_int]) _, fun o ho => flat_free TSession.flat _ _ o ho _, ?_⟩
      simp [e0, e3, e4, hp, hd, hy]
      refine hN _ _ _ _ hjx (List.Sublist.refl _) ⟨by simp [upd, e0], by simp [upd, hdec], b', J ++ b.wood 4 TSession.enc noInn, i7, h7, by simp [upd], by simp, k7, ?_⟩
      rw [hx]
      exact open_small hb l1
end A
end Go.Proofs.Ytgiiipbpadgcgaa

/-
  The types that the laws of this seat speak of, and the helpers over them: printed by a program (wip/tools/gen.py). No condition.
-/


namespace Go.Proofs.Ytgiiipbpadgcgaa
namespace A
set_option linter.unusedVariables false
set_option linter.unusedSimpArgs false
set_option maxRecDepth 100000

def szIntS (s : SL Int) : Nat := s.list.length
def okIntS (s : SL Int) : Prop := s.list.length ≤ mx
theorem shIntS {n : Nat} {a : AV} (h : ShC Try.prog n 36 [a]) : ∃ s : SL Int, a = s.av 1 encI ∧ okIntS s := by
  obtain ⟨s, h1, h2, h3⟩ := sh_slc (P := Try.prog) (t := 36) (el := 3) (w := 1) (enc := encI) (ok := fun _ => True) (by kernel_rfl) (by kernel_rfl) (fun n row h => by obtain ⟨i, h1, _⟩ := sh_int1 (k := .i64) (P := Try.prog) (t := 3) (by kernel_rfl) h; exact ⟨i, h1, trivial⟩) h
  exact ⟨s, h1, h2⟩
theorem szIntS_fn {s : SL Int} (hs : okIntS s) {left : Int} (hl : Room left) : Fnc Try.prog 129 [s.av 1 encI, .int .i64 left] (.int .i64 (szOf (szIntS s) left)) := szP_fn c129 hs hl
theorem toIntS_fn {s : SL Int} (h : szIntS s ≤ 1048576) : Tr Try.prog 51 [s.av 1 encI] fun _ r => ∃ t, r = (SL.mk t s.list).av 1 encI := by
  unfold szIntS at h
  exact toP_fn (v := fun n => .int .i64 n) (z := .int .i64 0) (bytes := 8) c51 (fun _ => rfl) (fun _ _ => by simp) (fun _ _ => rfl) (by omega) (by omega)
theorem eqIntS_fn {s t : SL Int} (h : szIntS s ≤ 1099511627776) (he : s.list = t.list) : Fnc Try.prog 34 [s.av 1 encI, t.av 1 encI] (.bool true) := by
  unfold szIntS at h
  exact eqP_fn (v := fun n => .int .i64 n) c34 (fun x K => by simp) (by unfold mx; omega) he
structure TLine where
  Seq : Int
  Owner : Int
  Version : Int
  Words : SL Int
def TLine.enc (s : TLine) : List AV := [.int .i64 s.Seq, .int .i64 s.Owner, .int .i64 s.Version, s.Words.av 1 encI]
@[simp] theorem TLine.len (s : TLine) : s.enc.length = 4 := (rfl)
@[simp] theorem TLine.all (s : TLine) : s.enc.take 4 = s.enc := (rfl)
@[simp] theorem TLine.g0 (s : TLine) (K : AV → Prop) : getW s.enc 0 K = K (.int .i64 s.Seq) := by simp [TLine.enc]
@[simp] theorem TLine.g1 (s : TLine) (K : AV → Prop) : getW s.enc 1 K = K (.int .i64 s.Owner) := by simp [TLine.enc]
@[simp] theorem TLine.g2 (s : TLine) (K : AV → Prop) : getW s.enc 2 K = K (.int .i64 s.Version) := by simp [TLine.enc]
@[simp] theorem TLine.g3 (s : TLine) (K : AV → Prop) : getW s.enc 3 K = K (s.Words.av 1 encI) := by simp [TLine.enc]
theorem TLine.cells (s : TLine) : ∀ a, a ∈ s.enc → a.cell = true := by simp [TLine.enc]
def TLine.sz (s : TLine) : Nat := (szIntS s.Words)
def TLine.ok (s : TLine) : Prop := okIntS s.Words
def TLine.con (s : TLine) : TLine := { s with Words := s.Words.pcon }
theorem TLine.sz_con (s : TLine) : s.con.sz = s.sz := by
  simp [TLine.sz, TLine.con, szIntS]
theorem TLine.sh : ∀ (n : Nat) (row : List AV), ShC Try.prog n 117 row → ∃ s : TLine, row = s.enc ∧ s.ok := by
  intro n row h
  obtain ⟨m, hl, hf⟩ := sh_fields (l := [(3, 0), (3, 1), (3, 2), (36, 3)]) (by kernel_rfl) h
  have hl' : row.length = 4 := hl.trans (by kernel_rfl)
  match row, hl' with
  | [x0, x1, x2, x3], _ =>
    have h0 := hf (3, 0) (by simp)
    rw [show Try.prog.cellsOf 3 = 1 by kernel_rfl] at h0
    obtain ⟨v0, rfl, _⟩ := sh_int (k := .i64) (t := 3) (by kernel_rfl) (show ShC Try.prog m 3 [x0] from h0)
    have h1 := hf (3, 1) (by simp)
    rw [show Try.prog.cellsOf 3 = 1 by kernel_rfl] at h1
    obtain ⟨v1, rfl, _⟩ := sh_int (k := .i64) (t := 3) (by kernel_rfl) (show ShC Try.prog m 3 [x1] from h1)
    have h2 := hf (3, 2) (by simp)
    rw [show Try.prog.cellsOf 3 = 1 by kernel_rfl] at h2
    obtain ⟨v2, rfl, _⟩ := sh_int (k := .i64) (t := 3) (by kernel_rfl) (show ShC Try.prog m 3 [x2] from h2)
    have h3 := hf (36, 3) (by simp)
    rw [show Try.prog.cellsOf 36 = 1 by kernel_rfl] at h3
    obtain ⟨v3, rfl, k3⟩ := shIntS (show ShC Try.prog m 36 [x3] from h3)
    exact ⟨⟨v0, v1, v2, v3⟩, rfl, k3⟩
theorem TLine.sz_fn {s : TLine} (hs : s.ok) {left : Int} (hl : Room left) : Fnc Try.prog 87 [.agg s.enc, .int .i64 left] (.int .i64 (szOf s.sz left)) := by
  unfold TLine.ok at hs
  have hr := hl.2
  refine fn_of c87 (by simp [F87]) fun c => ?_
  unfold F87
  simp
  refine call_fn0 (szIntS_fn hs hl) .int fun _ _ => ?_
  simp
  refine ⟨fun h => fin_plain ⟨by have := szOf_lt h; rw [szOf_neg (by simp only [TLine.sz]; omega)], rfl⟩, fun h => ?_⟩
  obtain ⟨h0, k0⟩ := szOf_ge h
  rw [h0]
  have hz : s.sz = (szIntS s.Words) := rfl
  have e : szOf s.sz left = left - ((szIntS s.Words) : Int) := by
    unfold szOf
    rw [if_pos (by omega)]
    omega
  exact fin_plain ⟨by rw [e], rfl⟩
theorem TLine.to_fn {s : TLine} (h : s.sz ≤ 1048576) : Tr Try.prog 88 [.agg s.enc] fun _ r => ∃ b : TLine, r = .agg b.enc ∧ b.con = s.con := by
  simp only [TLine.sz] at h
  intro c
  refine con_of c88 (by simp [F88]) ?_
  unfold F88
  simp [putA]
  refine call_tree0 (toIntS_fn (by omega)) fun r3 c3 hc3 ⟨t3, e3⟩ f3 => ?_
  subst e3
  simp [putA]
  refine fin_plain ⟨rfl, ⟨⟨s.Seq, s.Owner, s.Version, .mk t3 s.Words.list⟩, rfl, ?_⟩, from_agg ?_⟩
  · simp [TLine.con, SL.con, SL.pcon]
  · simp
    exact f3.mono (by omega)
theorem TLine.eq_fn {a b : TLine} (h : a.sz ≤ 1099511627776) (he : a.con = b.con) : Fnc Try.prog 91 [.agg a.enc, .agg b.enc] (.bool true) := by
  simp only [TLine.sz] at h
  have e0 : a.Seq = b.Seq := (congrArg TLine.Seq he : a.con.Seq = b.con.Seq)
  have e1 : a.Owner = b.Owner := (congrArg TLine.Owner he : a.con.Owner = b.con.Owner)
  have e2 : a.Version = b.Version := (congrArg TLine.Version he : a.con.Version = b.con.Version)
  have e3 : a.Words.list = b.Words.list := congrArg (fun s => s.Words.list) he
  refine fn_of c91 (by simp [F91]) fun c => ?_
  unfold F91
  simp [e0, e1, e2]
  refine call_fn0 (eqIntS_fn (by omega) e3) .bool fun _ _ => ?_
  simp [e0, e1, e2]
  exact fin_plain ⟨rfl, rfl⟩
def szLineS (s : SL TLine) : Nat := s.list.length + szL TLine.sz s.list
def okLineS (s : SL TLine) : Prop := s.list.length ≤ mx ∧ ∀ x, x ∈ s.list → TLine.ok x
theorem szLineS_con {s t : SL TLine} (h : s.list.map TLine.con = t.list.map TLine.con) : szLineS s = szLineS t := by
  unfold szLineS
  rw [← szL_map (con := TLine.con) TLine.sz_con s.list, ← szL_map (con := TLine.con) TLine.sz_con t.list, h]
  have := congrArg List.length h; simp at this; rw [this]
theorem shLineS {n : Nat} {a : AV} (h : ShC Try.prog n 34 [a]) : ∃ s : SL TLine, a = s.av 4 TLine.enc ∧ okLineS s := by
  obtain ⟨s, h1, h2, h3⟩ := sh_slc (P := Try.prog) (t := 34) (el := 117) (w := 4) (enc := TLine.enc) (ok := TLine.ok) (by kernel_rfl) (by kernel_rfl) (TLine.sh) h
  exact ⟨s, h1, h2, h3⟩
theorem szLineS_fn {s : SL TLine} (hs : okLineS s) {left : Int} (hl : Room left) : Fnc Try.prog 30 [s.av 4 TLine.enc, .int .i64 left] (.int .i64 (szOf (szLineS s) left)) :=
  szS_fn (g := 87) c30 (fun _ => rfl) hs.1 hl fun x hx left hl => TLine.sz_fn (hs.2 x hx) hl
theorem toLineS_fn {s : SL TLine} (h : szLineS s ≤ 1048576) : Tr Try.prog 32 [s.av 4 TLine.enc] fun _ r => ∃ b : SL TLine, r = b.av 4 TLine.enc ∧ b.list.map TLine.con = s.list.map TLine.con := by
  unfold szLineS at h
  exact toS_fn (g := 88) (z := [.int .i64 0, .int .i64 0, .int .i64 0, .nsl]) (bytes := 48) c32 rfl (fun _ => rfl) (fun x => TLine.cells x) (by omega) (by omega) fun x hx => TLine.to_fn (by have := szL_mem (sz := TLine.sz) hx; omega)
theorem eqLineS_fn {s t : SL TLine} (h : szLineS s ≤ 1099511627776) (he : s.list.map TLine.con = t.list.map TLine.con) : Fnc Try.prog 35 [s.av 4 TLine.enc, t.av 4 TLine.enc] (.bool true) := by
  unfold szLineS at h
  exact eqS_fn (g := 91) (con := TLine.con) c35 (fun _ => rfl) (by unfold mx; omega) he fun x hx y hxy => TLine.eq_fn (by have := szL_mem (sz := TLine.sz) hx; omega) hxy
end A
end Go.Proofs.Ytgiiipbpadgcgaa

/-
  AreLines of the reference and of the program are the same plain function of the list of lines. No condition.
-/


namespace Go.Proofs.Ytgiiipbpadgcgaa
namespace A
set_option linter.unusedVariables false
set_option linter.unusedSimpArgs false
set_option maxRecDepth 100000

def lineOk (a : TLine) : Bool :=
  inR a.Seq 0 1000000000000 && inR a.Owner 0 8 && inR a.Version 0 1000000000000 && decide (a.Words.list.length ≤ 4100) && (decide (a.Seq.tmod 2 = 1) == decide (0 < a.Owner))

def areLines (l : List TLine) : Bool := l.all lineOk && decide (l.length ≤ 8)

theorem spec_areLines {s : SL TLine} (hn : s.list.length ≤ mx) : Fnc Try.prog 67 [s.av 4 TLine.enc] (.bool (areLines s.list)) := by
  refine fn_of c67 (by simp [F67]) fun c => ?_
  unfold F67
  simp
  refine loop_drop s.list.length (fun i e H c' => e 0 = s.av 4 TLine.enc ∧ e 3 = .int .i64 i ∧ (s.list.take i).all lineOk = true ∧ H = []) ⟨rfl, rfl, by simp, rfl⟩ ?_
  intro i e H c hi ⟨e0, e3, hall, hH⟩ N hN
  subst hH
  simp [e0, e3]
  refine ⟨fun h => ⟨s.list[i], List.getElem?_eq_getElem h, ?_⟩, fun h => ?_⟩
  · generalize hx : s.list[i] = x
    have bad : lineOk x = false → areLines s.list = false := fun hb => by
      unfold areLines
      have : s.list.all lineOk = false := by
        rw [List.all_eq_false]; exact ⟨x, hx ▸ List.getElem_mem h, by simp [hb]⟩
      simp [this]
    simp [e0, e3]
    refine call_fn0 (l1In_fn _ _ _) .bool fun _ _ => ?_
    cases h1 : inR x.Seq 0 1000000000000
    · simp [e0, e3]; exact fin_plain ⟨by rw [bad (by simp [lineOk, h1])], rfl⟩
    simp [e0, e3]
    refine call_fn0 (l1In_fn _ _ _) .bool fun _ _ => ?_
    cases h2 : inR x.Owner 0 8
    · simp [e0, e3]; exact fin_plain ⟨by rw [bad (by simp [lineOk, h2])], rfl⟩
    simp [e0, e3]
    refine call_fn0 (l1In_fn _ _ _) .bool fun _ _ => ?_
    cases h3 : inR x.Version 0 1000000000000
    · simp [e0, e3]; exact fin_plain ⟨by rw [bad (by simp [lineOk, h3])], rfl⟩
    simp [e0, e3]
    by_cases h4 : (4100 : Int) < x.Words.list.length
    · simp [e0, e3, h4]; exact fin_plain ⟨by rw [bad (by simp [lineOk]; intros; omega)], rfl⟩
    simp [e0, e3, h4]
    have h4' : x.Words.list.length ≤ 4100 := by omega
    by_cases h5 : x.Seq.tmod 2 = 1 <;> by_cases h6 : 0 < x.Owner <;> simp [e0, e3, h5, h6]
    all_goals first
      | exact fin_plain ⟨by rw [bad (by simp [lineOk, h5, h6])], rfl⟩
      | exact hN _ _ _ _ h (List.nil_sublist _) ⟨by simp [upd, e0], by simp [upd]; exact step64 hn h, all_step hall h (by rw [hx]; simp [lineOk, h1, h2, h3, h4', h5, h6]), rfl⟩
  · have : i = s.list.length := by omega
    subst this
    rw [List.take_length] at hall
    refine fin_plain ⟨?_, rfl⟩
    simp [areLines, hall]
    omega

theorem impl_areLines {s : SL TLine} (hn : s.list.length ≤ mx) : Fnc Try.prog 89 [s.av 4 TLine.enc] (.bool (areLines s.list)) := by
  refine fn_of c89 (by simp [F89]) fun c => ?_
  unfold F89
  simp
  refine loop_drop s.list.length (fun i e H c' => e 0 = s.av 4 TLine.enc ∧ e 5 = s.av 4 TLine.enc ∧ e 6 = .int .i64 s.list.length ∧ e 7 = .int .i64 i ∧ (s.list.take i).all lineOk = true ∧ H = []) ⟨rfl, rfl, rfl, rfl, by simp, rfl⟩ ?_
  intro i e H c hi ⟨e0, e5, e6, e7, hall, hH⟩ N hN
  subst hH
  simp [e0, e5, e6, e7]
  refine ⟨fun h => ⟨s.list[i], List.getElem?_eq_getElem h, ?_⟩, fun h => ?_⟩
  · generalize hx : s.list[i] = x
    have bad : lineOk x = false → areLines s.list = false := fun hb => by
      unfold areLines
      have : s.list.all lineOk = false := by
        rw [List.all_eq_false]; exact ⟨x, hx ▸ List.getElem_mem h, by simp [hb]⟩
      simp [this]
    simp [e0, e5, e6, e7]
    refine call_fn0 (inRange_fn _ _ _) .bool fun _ _ => ?_
    cases h1 : inR x.Seq 0 1000000000000
    · simp [e0, e5, e6, e7]; exact fin_plain ⟨by rw [bad (by simp [lineOk, h1])], rfl⟩
    simp [e0, e5, e6, e7]
    refine call_fn0 (inRange_fn _ _ _) .bool fun _ _ => ?_
    cases h3 : inR x.Version 0 1000000000000
    · simp [e0, e5, e6, e7]; exact fin_plain ⟨by rw [bad (by simp [lineOk, h3])], rfl⟩
    simp [e0, e5, e6, e7]
    refine call_fn0 (inRange_fn _ _ _) .bool fun _ _ => ?_
    cases h2 : inR x.Owner 0 8
    · simp [e0, e5, e6, e7]; exact fin_plain ⟨by rw [bad (by simp [lineOk, h2])], rfl⟩
    simp [e0, e5, e6, e7]
    by_cases h4 : (4100 : Int) < x.Words.list.length
    · simp [e0, e5, e6, e7, h4]; exact fin_plain ⟨by rw [bad (by simp [lineOk]; intros; omega)], rfl⟩
    simp [e0, e5, e6, e7, h4]
    have h4' : x.Words.list.length ≤ 4100 := by omega
    by_cases h5 : x.Seq.tmod 2 = 1 <;> by_cases h6 : 0 < x.Owner <;> simp [e0, e5, e6, e7, h5, h6]
    all_goals first
      | exact fin_plain ⟨by rw [bad (by simp [lineOk, h5, h6])], rfl⟩
      | exact hN _ _ _ _ h (List.nil_sublist _) ⟨by simp [upd, e0], by simp [upd, e5], by simp [upd, e6], by simp [upd]; exact step64 hn h, all_step hall h (by rw [hx]; simp [lineOk, h1, h2, h3, h4', h5, h6]), rfl⟩
  · have : i = s.list.length := by omega
    subst this
    rw [List.take_length] at hall
    refine fin_plain ⟨?_, rfl⟩
    simp [areLines, hall]
    omega

theorem areLines_con {s t : SL TLine} (h : s.list.map TLine.con = t.list.map TLine.con) : areLines s.list = areLines t.list := by
  have e : ∀ l : List TLine, areLines l = areLines (l.map TLine.con) := fun l => by
    unfold areLines
    rw [List.all_map, List.length_map]
    rfl
  rw [e, e t.list, h]

end A
end Go.Proofs.Ytgiiipbpadgcgaa

/-
  Lines kept as0 objects: copies, marks, and what reads marks. No condition.
-/



namespace Go.Proofs.Ytgiiipbpadgcgaa
namespace A
set_option linter.unusedVariables false
set_option linter.unusedSimpArgs false
set_option maxRecDepth 100000

theorem encI_flat : Flat encI := fun x a ha => by simp [encI] at ha; subst ha; exact ⟨rfl, free_int _ _⟩
def TLine.encO (s : TLine) : List AV := [.int .i64 s.Seq, .int .i64 s.Owner, .int .i64 s.Version, s.Words.ref 1]
def TLine.inn (s : TLine) : List AObj := s.Words.wood 1 encI noInn
theorem TLine.lenO (s : TLine) : s.encO.length = 4 := (rfl)
@[simp] theorem TLine.o0 (s : TLine) (K : AV → Prop) : getW s.encO 0 K = K (.int .i64 s.Seq) := by simp [TLine.encO]
@[simp] theorem TLine.o1 (s : TLine) (K : AV → Prop) : getW s.encO 1 K = K (.int .i64 s.Owner) := by simp [TLine.encO]
@[simp] theorem TLine.o2 (s : TLine) (K : AV → Prop) : getW s.encO 2 K = K (.int .i64 s.Version) := by simp [TLine.encO]
@[simp] theorem TLine.o3 (s : TLine) (K : AV → Prop) : getW s.encO 3 K = K (s.Words.ref 1) := by simp [TLine.encO]
theorem TLine.freeO : ∀ (x : TLine) a, a ∈ x.encO → Free a := fun x a ha => by
  simp [TLine.encO] at ha
  rcases ha with rfl | rfl | rfl | rfl
  · exact free_int _ _
  · exact free_int _ _
  · exact free_int _ _
  · exact free_ref _ _
theorem TLine.freeI : ∀ (x : TLine) o, o ∈ x.inn → ∀ T, AvRows T o := fun x o ho => flat_free encI_flat _ _ o ho
theorem TLine.viewO {S : List AObj} (x : TLine) (h : ∀ o, o ∈ x.inn → o ∈ S) : ∀ (j : Nat) (a a' : AV), x.encO[j]? = some a → x.enc[j]? = some a' → View S a a' := fun j a a' h1 h2 => by
  match j, h1, h2 with
  | 0, h1, h2 => simp [TLine.encO] at h1; simp [TLine.enc] at h2; subst h1; subst h2; exact .refl _
  | 1, h1, h2 => simp [TLine.encO] at h1; simp [TLine.enc] at h2; subst h1; subst h2; exact .refl _
  | 2, h1, h2 => simp [TLine.encO] at h1; simp [TLine.enc] at h2; subst h1; subst h2; exact .refl _
  | 3, h1, h2 => simp [TLine.encO] at h1; simp [TLine.enc] at h2; subst h1; subst h2; exact view_flat h encI_flat.cells
  | j + 4, h1, h2 => simp [TLine.encO] at h1
/-- Lines, seen as0 trees. -/
theorem view_line {S : List AObj} {s : SL TLine} (hs : ∀ o, o ∈ s.wood 4 TLine.encO TLine.inn → o ∈ S) : View S (s.ref 4) (s.av 4 TLine.enc) :=
  view_wood hs (fun x => TLine.cells x) (fun _ => rfl) fun x h => TLine.viewO x h

theorem toLineO {x : TLine} (h : x.sz ≤ 1048576) (c : Nat) : Con Try.prog 88 [.agg x.enc] [] c fun r O _ => ∃ b : TLine, r = .agg b.encO ∧ O = b.inn ∧ b.con = x.con := by
  simp only [TLine.sz] at h
  refine con_of c88 (by simp [F88]) ?_
  unfold F88
  simp [putA]
  refine call_new (toPO_fn (v := fun n => .int .i64 n) (z := .int .i64 0) (bytes := 8) c51 (fun _ _ => by simp) (by unfold szIntS at h; omega) (by unfold szIntS at h; omega) _) (Views.refl _ _) fun r O c1 hc ⟨w, hr, hO, hw⟩ _ _ => ?_
  subst hr; subst hO
  refine ⟨_, .refl _, free_ref _ _ _, fun o ho => flat_free encI_flat _ _ o ho _, ?_⟩
  simp [putA]
  refine fin_sub (Hk := w.wood 1 encI noInn) ?_ (.refl _) ⟨⟨x.Seq, x.Owner, x.Version, w⟩, rfl, rfl, by simp [TLine.con, SL.pcon, hw]⟩
  exact ((List.Sublist.refl _).cons _).cons _ |>.cons _
theorem toLineSO {s : SL TLine} (h : szLineS s ≤ 1048576) (c : Nat) : Con Try.prog 32 [s.av 4 TLine.enc] [] c fun r H' _ => ∃ b : SL TLine, r = b.ref 4 ∧ H' = b.wood 4 TLine.encO TLine.inn ∧ b.list.map TLine.con = s.list.map TLine.con := by
  unfold szLineS at h
  exact toSO_fn (g := 88) (z := [.int .i64 0, .int .i64 0, .int .i64 0, .nsl]) (bytes := 48) c32 rfl (fun _ => rfl) TLine.lenO TLine.freeO TLine.freeI (by omega) (by omega)
    (fun x hx c => toLineO (by have := szL_mem (sz := TLine.sz) hx; omega) c) c

/-! ### marks -/
def mkLine (k : Int) (x : TLine) : TLine := ⟨k, k + 1, k + 2, x.Words.marks mkI cI (k + 3)⟩
def cLine (x : TLine) : Nat := 3 + x.Words.list.length
theorem mkLine_encO (k : Int) (x : TLine) : (mkLine k x).encO = [.int .i64 k, .int .i64 (k + 1), .int .i64 (k + 2), x.Words.ref 1] := by
  simp [mkLine, TLine.encO, SL.marks_ref]
theorem mkLine_tags (k : Int) (x : TLine) : tags (mkLine k x).inn = tags x.inn := flat_marks (enc := encI) (w := 1) mkI cI (k + 3) x.Words

theorem mixed_flat {α : Type} {mk : Int → α → α} {cnt : α → Nat} {k : Int} {l : List α} {inn : α → List AObj} {i : Nat} (h : i < l.length) :
    (mixed mk cnt k l i).flatMap inn = (mks mk cnt k (l.take i)).flatMap inn ++ inn l[i] ++ (l.drop (i + 1)).flatMap inn := by
  unfold mixed
  rw [List.drop_eq_getElem_cons h, List.flatMap_append, List.flatMap_cons, List.append_assoc]
theorem mixed_flat' {α : Type} {mk : Int → α → α} {cnt : α → Nat} {k : Int} {l : List α} {inn : α → List AObj} {i : Nat} (h : i < l.length) :
    (mixed mk cnt k l (i + 1)).flatMap inn = (mks mk cnt k (l.take i)).flatMap inn ++ inn (mk (k + szL cnt (l.take i)) l[i]) ++ (l.drop (i + 1)).flatMap inn := by
  unfold mixed
  rw [mks_step mk cnt k l h, List.flatMap_append, List.flatMap_append]
  simp

theorem markLine_nil (k : Int) : Fnc Try.prog 36 [.nsl, .int .i64 k] (.int .i64 k) := by
  refine fn_of c36 (by simp [F36]) fun c => ?_
  unfold F36
  simp
  refine loop_drop 0 (fun i e H c' => e 0 = .nsl ∧ e 1 = .int .i64 k ∧ e 5 = .int .i64 0 ∧ H = []) ⟨rfl, rfl, rfl, rfl⟩ ?_
  intro i e H c hi ⟨e0, e1, e5, hH⟩ N hN
  subst hH
  simp [e0, e1, e5]
  exact fin_plain ⟨rfl, rfl⟩
theorem heldLine_nil (k : Int) : Fnc Try.prog 53 [.nsl, .int .i64 k] (.int .i64 k) := by
  refine fn_of c53 (by simp [F53]) fun c => ?_
  unfold F53
  simp
  refine loop_drop 0 (fun i e H c' => e 0 = .nsl ∧ e 1 = .int .i64 k ∧ e 5 = .int .i64 0 ∧ H = []) ⟨rfl, rfl, rfl, rfl⟩ ?_
  intro i e H c hi ⟨e0, e1, e5, hH⟩ N hN
  subst hH
  simp [e0, e1, e5]
  exact fin_plain ⟨rfl, rfl⟩

theorem markLine_con1 {l : List TLine} (hz : szL cLine l ≤ 8388608) (hw : ∀ x, x ∈ l → x.Words.list.length ≤ 1048576) {k : Int} (hk : 0 ≤ k ∧ k ≤ 549755813888) (t c : Nat) :
    Con Try.prog 36 [.ref 0 t 4 l.length, .int .i64 k] (wood t 4 TLine.encO TLine.inn l) c fun r H' _ => r = .int .i64 (k + szL cLine l) ∧ H' = wood t 4 TLine.encO TLine.inn (mks mkLine cLine k l) := by
  have hln : l.length ≤ szL cLine l := by
    have : ∀ l : List TLine, l.length ≤ szL cLine l := fun l => by
      induction l with
      | nil => simp
      | cons x l ih => simp [szL, cLine] at ih ⊢; omega
    exact this l
  refine con_of c36 (by simp [F36]) ?_
  unfold F36
  simp
  refine loop_drop l.length (fun i e H c' => e 0 = .ref 0 t 4 l.length ∧ e 1 = .int .i64 (k + szL cLine (l.take i)) ∧ e 5 = .int .i64 i ∧ H = ⟨false, t, 4, (mixed mkLine cLine k l i).map TLine.encO⟩ :: (mixed mkLine cLine k l i).flatMap TLine.inn) ⟨rfl, by simp [szL], rfl, by rw [mixed_zero]; rfl⟩ ?_
  intro i e H c hi ⟨e0, e1, e5, hH⟩ N hN
  subst hH
  have hs := mixed_set mkLine cLine k l (i := i)
  have hst := fun h : i < l.length => szL_step cLine l h
  have hle := szL_le cLine l i
  have hfl := fun h : i < l.length => mixed_flat (mk := mkLine) (cnt := cLine) (k := k) (inn := TLine.inn) h
  have hfl' := fun h : i < l.length => mixed_flat' (mk := mkLine) (cnt := cLine) (k := k) (inn := TLine.inn) h
  generalize hjj : k + (szL cLine (l.take i) : Int) = j at e1 hs hfl'
  have w1 : IntKind.i64.wrap (j + 1) = j + 1 := wrap64 (by omega) (by omega)
  have w2 : IntKind.i64.wrap (j + 1 + 1) = j + 1 + 1 := wrap64 (by omega) (by omega)
  have w3 : IntKind.i64.wrap (j + 1 + 1 + 1) = j + 1 + 1 + 1 := wrap64 (by omega) (by omega)
  simp [e0, e1, e5]
  refine ⟨fun h => ?_, fun h => ?_⟩
  · have hs := hs h
    have hst := hst h
    have hg := mixed_get mkLine cLine k l h
    have hx := hw _ (List.getElem_mem h)
    rw [hfl h]
    have hfl' := hfl' h
    generalize l[i] = x at hs hst hg hx hfl'
    refine ⟨h, x, hg, ?_⟩
    simp [e0, e1, e5, h, mixed_len, w1, w2, w3, putA, TLine.encO]
    refine call_midr (f := 37) (B := x.inn) (markI_con c37 (s := x.Words) hx (k := j + 1 + 1 + 1) ⟨by omega, by omega⟩ c) (Views.refl _ _) fun r B' c' hc ⟨q1, q2⟩ => ?_
    subst q1; subst q2
    refine ⟨flat_marks (enc := encI) (w := 1) mkI cI _ x.Words, .int, fun o ho => flat_free encI_flat _ _ o ho _, ?_⟩
    simp [e0, e1, e5]
    refine hN _ _ _ _ h (List.Sublist.refl _) ⟨by simp [upd, e0], ?_, by simp [upd]; exact step64 (by unfold mx; omega) h, ?_⟩
    · simp [upd, hst, cLine]; omega
    · rw [hfl', ← hs, List.map_set, mkLine_encO]
      simp [mkLine, TLine.inn, Int.add_assoc]
  · have h1 : i = l.length := by omega
    subst h1
    refine fin_all ⟨?_, ?_⟩
    · rw [← hjj]; simp
    · rw [mixed_all]; rfl

theorem heldLine_fn1 {l : List TLine} (hz : szL cLine l ≤ 8388608) (hw : ∀ x, x ∈ l → x.Words.list.length ≤ 1048576) {k : Int} (hk : 0 ≤ k ∧ k ≤ 549755813888) (t : Nat) :
    Fnc Try.prog 53 [(SL.mk t (mks mkLine cLine k l)).av 4 TLine.enc, .int .i64 k] (.int .i64 (k + szL cLine l)) := by
  have hln : l.length ≤ szL cLine l := by
    have : ∀ l : List TLine, l.length ≤ szL cLine l := fun l => by
      induction l with
      | nil => simp
      | cons x l ih => simp [szL, cLine] at ih ⊢; omega
    exact this l
  refine fn_of c53 (by simp [F53]) fun c => ?_
  unfold F53
  simp
  have hlen := mks_len mkLine cLine k l
  refine loop_drop l.length (fun i e H c' => e 0 = (SL.mk t (mks mkLine cLine k l)).av 4 TLine.enc ∧ e 1 = .int .i64 (k + szL cLine (l.take i)) ∧ e 5 = .int .i64 i ∧ H = []) ⟨rfl, by simp [szL], rfl, rfl⟩ ?_
  intro i e H c hi ⟨e0, e1, e5, hH⟩ N hN
  subst hH
  have hg := fun h : i < l.length => mks_get mkLine cLine k l h
  have hst := fun h : i < l.length => szL_step cLine l h
  have hle := szL_le cLine l i
  have hle' := szL_le cLine l (i + 1)
  generalize hjj : k + (szL cLine (l.take i) : Int) = j at e1 hg
  have w1 : IntKind.i64.wrap (j + 1) = j + 1 := wrap64 (by omega) (by omega)
  have w2 : IntKind.i64.wrap (j + 1 + 1) = j + 1 + 1 := wrap64 (by omega) (by omega)
  have w3 : IntKind.i64.wrap (j + 1 + 1 + 1) = j + 1 + 1 + 1 := wrap64 (by omega) (by omega)
  simp [e0, e1, e5, hlen]
  refine ⟨fun h => ?_, fun h => ?_⟩
  · have hg := hg h
    have hst := hst h
    have hx := hw _ (List.getElem_mem h)
    generalize l[i] = x at hg hst hx
    have f0 : (mkLine j x).Seq = j := rfl
    have f1 : (mkLine j x).Owner = j + 1 := rfl
    have f2 : (mkLine j x).Version = j + 1 + 1 := by simp [mkLine]; omega
    have f3 : (mkLine j x).Words = x.Words.marks mkI cI (j + 1 + 1 + 1) := by simp [mkLine]; congr 1; omega
    refine ⟨_, hg, ?_⟩
    simp [e0, e1, e5, h, w1, w2, w3, f0, f1, f2, f3]
    refine ⟨_, hg, ?_⟩
    simp [e0, e1, e5, h, w1, w2, w3, f0, f1, f2, f3]
    refine ⟨_, hg, ?_⟩
    simp [e0, e1, e5, h, w1, w2, w3, f0, f1, f2, f3]
    refine ⟨_, hg, ?_⟩
    simp [e0, e1, e5, h, w1, w2, w3, f0, f1, f2, f3]
    refine call_fn0 (heldI_fn c38 (s := x.Words) hx ⟨by omega, by omega⟩) .int fun _ _ => ?_
    have hp : ¬ (j + 1 + 1 + 1 + (x.Words.list.length : Int) < 0) := by omega
    simp [e0, e1, e5, h, w1, w2, w3, hp]
    refine hN _ _ _ _ h (List.Sublist.refl _) ⟨by simp [upd, e0], ?_, by simp [upd]; exact step64 (by unfold mx; omega) h, rfl⟩
    simp [upd, hst, cLine]; omega
  · have h1 : i = l.length := by omega
    subst h1
    refine fin_plain ⟨?_, rfl⟩
    rw [← hjj]; simp

theorem markLine_con {s : SL TLine} (hz : szL cLine s.list ≤ 8388608) (hw : ∀ x, x ∈ s.list → x.Words.list.length ≤ 1048576) {k : Int} (hk : 0 ≤ k ∧ k ≤ 549755813888) (c : Nat) :
    Con Try.prog 36 [s.ref 4, .int .i64 k] (s.wood 4 TLine.encO TLine.inn) c fun r H' _ => r = .int .i64 (k + szL cLine s.list) ∧ H' = (s.marks mkLine cLine k).wood 4 TLine.encO TLine.inn := by
  cases s with
  | nil =>
    have := markLine_nil k c
    simpa [SL.ref, SL.wood, SL.marks, szL] using this
  | mk t l => exact markLine_con1 (l := l) hz hw hk t c
theorem heldLine_fn {s : SL TLine} (hz : szL cLine s.list ≤ 8388608) (hw : ∀ x, x ∈ s.list → x.Words.list.length ≤ 1048576) {k : Int} (hk : 0 ≤ k ∧ k ≤ 549755813888) :
    Fnc Try.prog 53 [(s.marks mkLine cLine k).av 4 TLine.enc, .int .i64 k] (.int .i64 (k + szL cLine s.list)) := by
  cases s with
  | nil =>
    have := heldLine_nil k
    simpa [SL.av, SL.marks, szL] using this
  | mk t l => exact heldLine_fn1 (l := l) hz hw hk t
theorem line_first {K : AV → List AObj → Nat → Prop} {C : List AObj} {s : SL TLine} {c : Nat} (hz : szL cLine s.list ≤ 8388608) (hw : ∀ x, x ∈ s.list → x.Words.list.length ≤ 1048576)
    (kk : ∀ c', c ≤ c' → K (.int .i64 (1 + szL cLine s.list)) ((s.marks mkLine cLine 1).wood 4 TLine.encO TLine.inn ++ C) c') : CallW Try.prog 36 [s.ref 4, .int .i64 1] (s.wood 4 TLine.encO TLine.inn ++ C) c K :=
  mark_mid (A := []) (markLine_con hz hw ⟨by omega, by omega⟩ c) mkLine_tags TLine.freeO TLine.freeI kk
theorem line_last {K : AV → List AObj → Nat → Prop} {A : List AObj} {s : SL TLine} {c : Nat} (hz : szL cLine s.list ≤ 8388608) (hw : ∀ x, x ∈ s.list → x.Words.list.length ≤ 1048576)
    (kk : ∀ c', c ≤ c' → K (.int .i64 (1 + szL cLine s.list)) (A ++ (s.marks mkLine cLine 1).wood 4 TLine.encO TLine.inn) c') : CallW Try.prog 36 [s.ref 4, .int .i64 1] (A ++ s.wood 4 TLine.encO TLine.inn) c K := by
  have := mark_mid (A := A) (C := []) (K := K) (markLine_con hz hw (k := 1) ⟨by omega, by omega⟩ c) mkLine_tags TLine.freeO TLine.freeI (by simpa using kk)
  simpa using this
theorem cloneIO {s : SL Int} (hn : s.list.length ≤ 1048576) (c : Nat) : Con Try.prog 90 [s.av 1 encI] [] c fun r O _ => ∃ x : SL Int, r = x.ref 1 ∧ O = x.wood 1 encI noInn ∧ x.list = s.list :=
  clone_con (b := 8) (z := [.int .i64 0]) c90 (by omega) (by unfold mx; omega) c

theorem szLine_bounds {l : List TLine} (h : l.length + szL TLine.sz l ≤ 1048576) : szL cLine l ≤ 8388608 ∧ (∀ x, x ∈ l → x.Words.list.length ≤ 1048576) ∧ l.length ≤ 1048576 := by
  have key : ∀ l : List TLine, szL cLine l ≤ 3 * l.length + szL TLine.sz l := fun l => by
    induction l with
    | nil => simp [szL]
    | cons x l ih =>
      have e : x.sz = x.Words.list.length := rfl
      simp only [szL, List.map_cons, List.sum_cons, List.length_cons, cLine, e] at ih ⊢; omega
  refine ⟨by have := key l; omega, fun x hx => ?_, by omega⟩
  have := szL_mem (sz := TLine.sz) hx
  have e : x.sz = x.Words.list.length := rfl
  omega

theorem line_from {c : Nat} {s : SL TLine} (ht : ∀ t, t ∈ tags (s.wood 4 TLine.encO TLine.inn) → c ≤ t) : From c (s.av 4 TLine.enc) := by
  cases s with
  | nil => exact from_nsl c
  | mk t l =>
    have ht' : ∀ u, u ∈ t :: tags (l.flatMap TLine.inn) → c ≤ u := ht
    refine from_slc (ht' t (List.mem_cons_self ..)) fun row hr a ha => ?_
    obtain ⟨x, hx, rfl⟩ := List.mem_map.1 hr
    simp [TLine.enc] at ha
    rcases ha with rfl | rfl | rfl | rfl
    · simp
    · simp
    · simp
    · refine flat_from encI_flat fun u hu => ht' u (List.mem_cons_of_mem _ ?_)
      obtain ⟨o, ho, rfl⟩ := of_mem_tags hu
      exact mem_tags (List.mem_flatMap.2 ⟨x, hx, ho⟩)
theorem line_tr {f : Nat} {args : List AV} {Q : SL TLine → Prop} (h : ∀ c, Con Try.prog f args [] c fun r O _ => ∃ b : SL TLine, r = b.ref 4 ∧ O = b.wood 4 TLine.encO TLine.inn ∧ Q b) :
    Tr Try.prog f args fun _ r => ∃ b : SL TLine, r = b.av 4 TLine.enc ∧ Q b :=
  tr_of h fun c r O c' _ ⟨b, h1, h2, h3⟩ ht => ⟨b.av 4 TLine.enc, by rw [h1]; exact view_line (by rw [h2]; exact fun _ h => h), ⟨b, rfl, h3⟩, line_from (by rw [← h2]; exact ht)⟩
theorem line_tr2 {f : Nat} {args : List AV} {Q : SL TLine → List AV → Prop} (hF : ∀ b l, Q b l → ∀ a, a ∈ l → Free a) (h : ∀ c, Con Try.prog f args [] c fun r O _ => ∃ (b : SL TLine) (l : List AV), r = .tup (b.ref 4 :: l) ∧ O = b.wood 4 TLine.encO TLine.inn ∧ Q b l) :
    Tr Try.prog f args fun _ r => ∃ (b : SL TLine) (l : List AV), r = .tup (b.av 4 TLine.enc :: l) ∧ Q b l :=
  tr_of h fun c r O c' _ ⟨b, l, h1, h2, h3⟩ ht => ⟨.tup (b.av 4 TLine.enc :: l), by rw [h1]; exact view_tup (.cons (view_line (by rw [h2]; exact fun _ h => h)) (Views.refl _ _)), ⟨b, l, rfl, h3⟩,
    from_tup fun a ha => by
      rcases List.mem_cons.1 ha with rfl | ha
      · exact line_from (by rw [← h2]; exact ht)
      · exact (hF b l h3 a ha).from c⟩
theorem view_lmarks {S : List AObj} {s : SL TLine} {k : Int} (hs : ∀ o, o ∈ (s.marks mkLine cLine k).wood 4 TLine.encO TLine.inn → o ∈ S) : View S (s.ref 4) ((s.marks mkLine cLine k).av 4 TLine.enc) := by
  rw [← SL.marks_ref (mk := mkLine) (cnt := cLine) k s]
  exact view_line hs
end A
end Go.Proofs.Ytgiiipbpadgcgaa

/-
  Lines copied, and recovered in place, by the reference and by the program. No condition.
-/


namespace Go.Proofs.Ytgiiipbpadgcgaa
namespace A
set_option linter.unusedVariables false
set_option linter.unusedSimpArgs false
set_option maxRecDepth 100000

def inns (l : List TLine) : List AObj := l.flatMap TLine.inn
theorem wood_inns (t : Nat) (l : List TLine) : (SL.mk t l).wood 4 TLine.encO TLine.inn = ⟨false, t, 4, l.map TLine.encO⟩ :: inns l := rfl
theorem inns_app (l m : List TLine) : inns (l ++ m) = inns l ++ inns m := List.flatMap_append ..
theorem inns_one (x : TLine) : inns [x] = x.inn := by simp [inns]
theorem inns_cons (x : TLine) (l : List TLine) : inns (x :: l) = x.inn ++ inns l := List.flatMap_cons ..

theorem av_words (s : SL Int) : Av [] (s.av 1 encI) := by
  cases s with
  | nil => exact .nsl
  | mk t l =>
    exact .slc (by simp) fun r j x a hx ha => by
      obtain ⟨n, _, rfl⟩ := List.mem_map.1 (List.mem_of_getElem? hx)
      have := List.mem_of_getElem? ha
      simp [encI] at this; subst this; exact .int
theorem av_line (x : TLine) : ∀ a, a ∈ x.enc → Av [] a := fun a ha => by
  simp [TLine.enc] at ha
  rcases ha with rfl | rfl | rfl | rfl
  · exact .int
  · exact .int
  · exact .int
  · exact av_words _

/-- Copied so far: new lines, then the old ones. -/
def cpRows (ys l : List TLine) (i : Nat) : List (List AV) := ys.map TLine.encO ++ (l.drop i).map TLine.enc
theorem cpRows_len {ys l : List TLine} {i : Nat} (h : ys.length = i) (hi : i ≤ l.length) : (cpRows ys l i).length = l.length := by simp [cpRows, h]; omega
theorem cpRows_get {ys l : List TLine} {i : Nat} (h : ys.length = i) (hi : i < l.length) : (cpRows ys l i)[i]? = some l[i].enc := by
  unfold cpRows
  rw [List.getElem?_append_right (by simp; omega), List.length_map, h, Nat.sub_self, List.drop_eq_getElem_cons hi]; rfl
theorem cpRows_set {ys l : List TLine} {i : Nat} (h : ys.length = i) (hi : i < l.length) (y : TLine) : (cpRows ys l i).set i y.encO = cpRows (ys ++ [y]) l (i + 1) := by
  unfold cpRows
  rw [List.set_append_right _ _ (by simp; omega), List.length_map, h, Nat.sub_self, List.drop_eq_getElem_cons hi, List.map_cons, List.set_cons_zero]
  simp
theorem cpRows_zero (l : List TLine) : cpRows [] l 0 = l.map TLine.enc := by simp [cpRows]
theorem cpRows_all {ys l : List TLine} : cpRows ys l l.length = ys.map TLine.encO := by simp [cpRows]

theorem impl_copyO {s : SL TLine} (hn : s.list.length ≤ 1048576) (hz : ∀ x, x ∈ s.list → x.Words.list.length ≤ 1048576) (c : Nat) :
    Con Try.prog 101 [s.av 4 TLine.enc] [] c fun r O _ => ∃ b : SL TLine, r = b.ref 4 ∧ O = b.wood 4 TLine.encO TLine.inn ∧ b.list.map TLine.con = s.list.map TLine.con := by
  refine con_of c101 (by simp [F101]) ?_
  unfold F101
  simp
  refine call_new (clone_con (b := 48) (z := [.int .i64 0, .int .i64 0, .int .i64 0, .nsl]) c137 (by omega) (by unfold mx; omega) _) (Views.refl _ _) fun r O c1 hc ⟨x, hr, hO, hx⟩ _ _ => ?_
  subst hr
  refine ⟨_, .refl _, free_ref _ _ _, fun o ho => ?_, ?_⟩
  · subst hO
    cases x with
    | nil => cases ho
    | mk t l =>
      rw [flat_wood] at ho
      simp only [List.mem_singleton] at ho
      subst ho
      exact avRows_of fun row hr a ha => by
        obtain ⟨y, _, rfl⟩ := List.mem_map.1 hr
        exact av_line y a ha
  simp
  cases x with
  | nil =>
    have h0 : s.list = [] := hx.symm
    have hO' : O = [] := hO
    subst hO'
    refine loop_drop 0 (fun i e H c' => e 3 = .nsl ∧ e 9 = .int .i64 0 ∧ e 10 = .int .i64 0 ∧ H = []) ⟨rfl, by simp [h0], rfl, rfl⟩ ?_
    intro i e H c' hi ⟨e3, e9, e10, hH⟩ N hN
    subst hH
    simp [e3, e9, e10]
    exact fin_all ⟨.nil, rfl, rfl, by simp [h0]⟩
  | mk t l =>
    simp only [SL.list_mk] at hx
    subst hx
    rw [flat_wood] at hO
    subst hO
    refine loop_drop s.list.length (fun i e H c' => e 3 = .ref 0 t 4 s.list.length ∧ e 8 = s.av 4 TLine.enc ∧ e 9 = .int .i64 s.list.length ∧ e 10 = .int .i64 i ∧ ∃ ys : List TLine, ys.length = i ∧ ys.map TLine.con = (s.list.take i).map TLine.con ∧ H = ⟨false, t, 4, cpRows ys s.list i⟩ :: inns ys) ⟨rfl, rfl, rfl, rfl, [], rfl, rfl, by rw [cpRows_zero]; rfl⟩ ?_
    intro i e H c' hi ⟨e3, e8, e9, e10, ys, hy, hcon, hH⟩ N hN
    subst hH
    simp [e3, e8, e9, e10]
    refine ⟨fun h => ⟨s.list[i], List.getElem?_eq_getElem h, ?_⟩, fun h => ?_⟩
    · have hlen := cpRows_len hy hi
      have hget := cpRows_get hy h
      have hset := cpRows_set hy h
      have hw := hz _ (List.getElem_mem h)
      have htk : (s.list.take (i + 1)).map TLine.con = (s.list.take i).map TLine.con ++ [s.list[i].con] := by rw [List.take_succ_eq_append_getElem h, List.map_append]; rfl
      generalize s.list[i] = x at hget hset hw htk
      simp [e3, e8, e9, e10, h]
      refine call_new (cloneIO hw _) (Views.refl _ _) fun r O c2 hc2 ⟨w, hr, hO, hwl⟩ _ _ => ?_
      subst hr; subst hO
      refine ⟨_, .refl _, free_ref _ _ _, fun o ho => flat_free encI_flat _ _ o ho _, ?_⟩
      simp [e3, e8, e9, e10, h]
      refine ⟨_, hget, ?_⟩
      simp [hlen, putA, TLine.enc]
      refine hN _ _ (⟨false, t, 4, cpRows (ys ++ [⟨x.Seq, x.Owner, x.Version, w⟩]) s.list (i + 1)⟩ :: inns (ys ++ [⟨x.Seq, x.Owner, x.Version, w⟩])) _ h ?_ ⟨by simp [upd, e3], by simp [upd, e8], by simp [upd, e9], by simp [upd]; exact step64 (by unfold mx; omega) h, ys ++ [⟨x.Seq, x.Owner, x.Version, w⟩], by simp [hy], ?_, rfl⟩
      · rw [inns_app, inns_one, ← hset]
        exact (List.Sublist.append (List.Sublist.refl _) ((List.Sublist.refl _).cons _)).cons_cons _
      · rw [List.map_append, hcon, htk]
        simp [TLine.con, SL.pcon, hwl]
    · have h1 : i = s.list.length := by omega
      subst h1
      refine fin_all ⟨.mk t ys, by simp [SL.ref, hy], by rw [wood_inns, cpRows_all], ?_⟩
      simpa using hcon

/-- Rows whose inner slices are named by their places. -/
def encX (k : Nat) (x : TLine) : List AV := [.int .i64 x.Seq, .int .i64 x.Owner, .int .i64 x.Version, x.Words.at_ k 1]
def rowsX (ks : List (Nat × TLine)) : List (List AV) := ks.map fun p => encX p.1 p.2
theorem renX (t : Nat) (ks : List (Nat × TLine)) : RenO [] ⟨false, t, 4, rowsX ks⟩ ⟨false, t, 4, (ks.map (·.2)).map TLine.encO⟩ where
  mp := rfl
  tag := rfl
  w := rfl
  len := by simp [rowsX]
  maps h := by cases h
  row r x x' h1 h2 := by
    simp only [rowsX, List.getElem?_map, Option.map_eq_some_iff] at h1 h2
    obtain ⟨p, hp, rfl⟩ := h1
    obtain ⟨y, ⟨q, hq, rfl⟩, rfl⟩ := h2
    rw [hp] at hq; cases hq
    refine ⟨rfl, fun j a a' h3 h4 => ?_⟩
    match j, h3, h4 with
    | 0, h3, h4 => simp [encX] at h3; simp [TLine.encO] at h4; exact .inl (by rw [← h3, ← h4])
    | 1, h3, h4 => simp [encX] at h3; simp [TLine.encO] at h4; exact .inl (by rw [← h3, ← h4])
    | 2, h3, h4 => simp [encX] at h3; simp [TLine.encO] at h4; exact .inl (by rw [← h3, ← h4])
    | 3, h3, h4 =>
      simp [encX] at h3; simp [TLine.encO] at h4
      subst h3; subst h4
      exact .inr ⟨cell_ref _ _, view_at' _ _ _ _⟩
    | j + 4, h3, h4 => simp [encX] at h3

theorem spec_copyM {s : SL TLine} (hn : s.list.length ≤ 1048576) (hz : ∀ x, x ∈ s.list → x.Words.list.length ≤ 1048576) (c : Nat) :
    Con Try.prog 100 [s.av 4 TLine.enc] [] c fun r O _ => ∃ b : SL TLine, r = b.ref 4 ∧ O = b.wood 4 TLine.encO TLine.inn ∧ b.list.map TLine.con = s.list.map TLine.con ∧ ∃ t, b = .mk t b.list := by
  refine con_of c100 (by simp [F100]) ?_
  unfold F100
  simp
  refine loop_drop s.list.length (fun i e H c' => e 0 = s.av 4 TLine.enc ∧ e 4 = .int .i64 i ∧ ∃ (t : Nat) (ks : List (Nat × TLine)), e 3 = .ref 0 t 4 i ∧ ks.length = i ∧ (ks.map (·.2)).map TLine.con = (s.list.take i).map TLine.con ∧ H = ⟨false, t, 4, rowsX ks⟩ :: inns (ks.map (·.2))) ⟨rfl, rfl, _, [], rfl, rfl, rfl, rfl⟩ ?_
  intro i e H c' hi ⟨e0, e4, t, ks, e3, hy, hcon, hH⟩ N hN
  subst hH
  have hrl : (rowsX ks).length = i := by simp [rowsX, hy]
  generalize hys : ks.map (·.2) = ys at hcon
  simp [e0, e3, e4]
  refine ⟨fun h => ⟨s.list[i], List.getElem?_eq_getElem h, ?_⟩, fun h => ?_⟩
  · have hw := hz _ (List.getElem_mem h)
    have hget : s.list[i]? = some s.list[i] := List.getElem?_eq_getElem h
    have htk : (s.list.take (i + 1)).map TLine.con = (s.list.take i).map TLine.con ++ [s.list[i].con] := by rw [List.take_succ_eq_append_getElem h, List.map_append]; rfl
    generalize s.list[i] = x at hget hw htk
    simp [e0, e3, e4, h]
    refine ⟨_, hget, ?_⟩
    have m1 : x.Words.list.length * 8 ≤ 140737488355328 := by omega
    have m2 : x.Words.list.length ≤ mx := by unfold mx; omega
    have m3 : (i + 1) * 48 ≤ 140737488355328 := by omega
    have m4 : i + 1 ≤ mx := by unfold mx; omega
    simp [e0, e3, e4, h, m1, m2, m3, m4, hrl, putA, TLine.enc]
    refine hN _ _ (⟨false, c' + 1 + 1 + 1 + 1, 4, rowsX (ks ++ [((inns ys).length + 1 + 1, TLine.mk x.Seq x.Owner x.Version (.mk (c' + 1 + 1) x.Words.list))])⟩ :: inns ((ks ++ [((inns ys).length + 1 + 1, TLine.mk x.Seq x.Owner x.Version (.mk (c' + 1 + 1) x.Words.list))]).map (·.2))) _ h ?_
      ⟨by simp [upd, e0], by simp [upd]; exact step64 (by unfold mx; omega) h, c' + 1 + 1 + 1 + 1, _, by simp [upd], by simp [hy], ?_, rfl⟩
    · rw [List.map_append, inns_app, hys]
      have e1 : rowsX (ks ++ [((inns ys).length + 1 + 1, TLine.mk x.Seq x.Owner x.Version (.mk (c' + 1 + 1) x.Words.list))]) = rowsX ks ++ [[.int .i64 x.Seq, .int .i64 x.Owner, .int .i64 x.Version, .ref ((inns ys).length + 1 + 1) (c' + 1 + 1) 1 x.Words.list.length]] := by
        simp [rowsX, encX, SL.at_]
      rw [e1]
      refine List.Sublist.cons_cons _ (List.Sublist.append (List.Sublist.refl _) ?_)
      simp only [List.map_cons, List.map_nil, inns_one, TLine.inn, flat_wood]
      exact ((List.nil_sublist _).cons_cons _).cons _
    · rw [List.map_append, List.map_append, hys, hcon, htk]
      simp [TLine.con, SL.pcon]
  · have h1 : i = s.list.length := by omega
    subst h1
    refine fin_ren (List.Sublist.refl _) (.cons (renX t ks) (.refl _ _)) (.refl _) ⟨.mk t ys, ?_, ?_, ?_, t, rfl⟩
    · subst hys; simp [SL.ref, hy]
    · rw [wood_inns, hys]
    · simpa using hcon

theorem spec_copyO {s : SL TLine} (hn : s.list.length ≤ 1048576) (hz : ∀ x, x ∈ s.list → x.Words.list.length ≤ 1048576) (c : Nat) :
    Con Try.prog 100 [s.av 4 TLine.enc] [] c fun r O _ => ∃ b : SL TLine, r = b.ref 4 ∧ O = b.wood 4 TLine.encO TLine.inn ∧ b.list.map TLine.con = s.list.map TLine.con :=
  (spec_copyM hn hz c).mono fun r H' c' _ ⟨b, h1, h2, h3, _⟩ => ⟨b, h1, h2, h3⟩

/-- A line, recovered. -/
def recL (owner : Int) (x : TLine) : TLine := if x.Owner = owner then ⟨x.Seq + 1, 0, 0, .nil⟩ else x
theorem mixM_flat {f : TLine → TLine} {l : List TLine} {i : Nat} (h : i < l.length) : inns (mixM f l i) = inns ((l.take i).map f) ++ (l[i].inn ++ inns (l.drop (i + 1))) := by
  unfold mixM
  rw [List.drop_eq_getElem_cons h, inns_app, inns_cons]
theorem mixM_flat' {f : TLine → TLine} {l : List TLine} {i : Nat} (h : i < l.length) : inns (mixM f l (i + 1)) = inns ((l.take i).map f) ++ ((f l[i]).inn ++ inns (l.drop (i + 1))) := by
  unfold mixM
  rw [List.take_succ_eq_append_getElem h, List.map_append, inns_app, inns_app]
  simp [inns_one]

theorem spec_recoverO1 {l : List TLine} {owner : Int} (hn : l.length ≤ 1048576) (hz : ∀ x, x ∈ l → 0 ≤ x.Seq ∧ x.Seq ≤ 1000000000000000) (t c : Nat) :
    Con Try.prog 102 [.ref 0 t 4 l.length, .int .i64 owner] (⟨false, t, 4, l.map TLine.encO⟩ :: inns l) c fun r O _ => r = .tup [] ∧ O = ⟨false, t, 4, (l.map (recL owner)).map TLine.encO⟩ :: inns (l.map (recL owner)) := by
  refine con_of c102 (by simp [F102]) ?_
  unfold F102
  simp
  refine loop_drop l.length (fun i e H c' => e 0 = .ref 0 t 4 l.length ∧ e 1 = .int .i64 owner ∧ e 4 = .int .i64 i ∧ H = ⟨false, t, 4, (mixM (recL owner) l i).map TLine.encO⟩ :: inns (mixM (recL owner) l i)) ⟨rfl, rfl, rfl, by rw [mixM_zero]⟩ ?_
  intro i e H c' hi ⟨e0, e1, e4, hH⟩ N hN
  subst hH
  simp [e0, e1, e4]
  refine ⟨fun h => ?_, fun h => ?_⟩
  · have hget := mixM_get (recL owner) h
    have hset := mixM_set (recL owner) h
    have hsame := mixM_same (recL owner) h
    have hq := hz _ (List.getElem_mem h)
    have hf := mixM_flat (f := recL owner) h
    have hf' := mixM_flat' (f := recL owner) h
    generalize l[i] = x at hget hset hsame hq hf hf'
    have w1 : IntKind.i64.wrap (x.Seq + 1) = x.Seq + 1 := wrap64 (by omega) (by omega)
    refine ⟨h, x, hget, ?_⟩
    by_cases hw : x.Owner = owner
    · simp [e0, e1, e4, hw, h]
      refine ⟨x, hget, ?_⟩
      simp [putA, w1, h]
      refine ⟨x, hget, ?_⟩
      simp [e0, e1, e4]
      have hr : recL owner x = ⟨x.Seq + 1, 0, 0, .nil⟩ := by simp [recL, hw]
      refine hN _ _ (⟨false, t, 4, (mixM (recL owner) l (i + 1)).map TLine.encO⟩ :: inns (mixM (recL owner) l (i + 1))) _ h ?_ ⟨by simp [upd, e0], by simp [upd, e1], by simp [upd]; exact step64 (by unfold mx; omega) h, rfl⟩
      rw [hf, hf', ← hset, hr, List.map_set]
      refine List.Sublist.cons_cons _ (List.Sublist.append (List.Sublist.refl _) ?_)
      exact List.sublist_append_right _ _
    · simp [e0, e1, e4, hw, h]
      refine hN _ _ _ _ h (List.Sublist.refl _) ⟨by simp [upd, e0], by simp [upd, e1], by simp [upd]; exact step64 (by unfold mx; omega) h, ?_⟩
      rw [hsame (by simp [recL, hw])]
  · have h1 : i = l.length := by omega
    subst h1
    refine fin_all ⟨rfl, ?_⟩
    rw [mixM_all]
    simp

theorem impl_recoverO1 {l : List TLine} {owner : Int} (hn : l.length ≤ 1048576) (hz : ∀ x, x ∈ l → 0 ≤ x.Seq ∧ x.Seq ≤ 1000000000000000) (t c : Nat) :
    Con Try.prog 103 [.ref 0 t 4 l.length, .int .i64 owner] (⟨false, t, 4, l.map TLine.encO⟩ :: inns l) c fun r O _ => r = .tup [] ∧ O = ⟨false, t, 4, (l.map (recL owner)).map TLine.encO⟩ :: inns (l.map (recL owner)) := by
  refine con_of c103 (by simp [F103]) ?_
  unfold F103
  simp
  refine loop_drop l.length (fun i e H c' => e 0 = .ref 0 t 4 l.length ∧ e 1 = .int .i64 owner ∧ e 6 = .ref 0 t 4 l.length ∧ e 7 = .int .i64 l.length ∧ e 8 = .int .i64 i ∧ H = ⟨false, t, 4, (mixM (recL owner) l i).map TLine.encO⟩ :: inns (mixM (recL owner) l i)) ⟨rfl, rfl, rfl, rfl, rfl, by rw [mixM_zero]⟩ ?_
  intro i e H c' hi ⟨e0, e1, e6, e7, e8, hH⟩ N hN
  subst hH
  simp [e0, e1, e6, e7, e8]
  refine ⟨fun h => ?_, fun h => ?_⟩
  · have hget := mixM_get (recL owner) h
    have hset := mixM_set (recL owner) h
    have hsame := mixM_same (recL owner) h
    have hq := hz _ (List.getElem_mem h)
    have hf := mixM_flat (f := recL owner) h
    have hf' := mixM_flat' (f := recL owner) h
    generalize l[i] = x at hget hset hsame hq hf hf'
    have w1 : IntKind.i64.wrap (x.Seq + 1) = x.Seq + 1 := wrap64 (by omega) (by omega)
    have hx0 : x.encO.take 4 = x.encO := rfl
    refine ⟨h, x, hget, ?_⟩
    simp [TLine.lenO, hx0]
    by_cases hw : x.Owner = owner
    · simp [e0, e1, e6, e7, e8, hw, h, putA, w1]
      refine ⟨x, hget, ?_⟩
      simp [putA, w1, h, e0, e1, e6, e7, e8, TLine.lenO]
      have hr : recL owner x = ⟨x.Seq + 1, 0, 0, .nil⟩ := by simp [recL, hw]
      refine hN _ _ (⟨false, t, 4, (mixM (recL owner) l (i + 1)).map TLine.encO⟩ :: inns (mixM (recL owner) l (i + 1))) _ h ?_ ⟨by simp [upd, e0], by simp [upd, e1], by simp [upd, e6], by simp [upd, e7], by simp [upd]; exact step64 (by unfold mx; omega) h, rfl⟩
      rw [hf, hf', ← hset, hr, List.map_set]
      refine List.Sublist.cons_cons _ ?_
      simp only [List.append_assoc]
      refine List.Sublist.append (List.Sublist.refl _) ?_
      exact (List.sublist_append_left _ _).trans (List.sublist_append_right _ _)
    · simp [e0, e1, e6, e7, e8, hw, h]
      refine hN _ _ _ _ h ?_ ⟨by simp [upd, e0], by simp [upd, e1], by simp [upd, e6], by simp [upd, e7], by simp [upd]; exact step64 (by unfold mx; omega) h, rfl⟩
      rw [hsame (by simp [recL, hw])]
      exact List.Sublist.cons_cons _ (List.sublist_append_left _ _)
  · have h1 : i = l.length := by omega
    subst h1
    refine fin_all ⟨rfl, ?_⟩
    rw [mixM_all]
    simp

theorem spec_recoverO {s : SL TLine} {owner : Int} (hn : s.list.length ≤ 1048576) (hz : ∀ x, x ∈ s.list → 0 ≤ x.Seq ∧ x.Seq ≤ 1000000000000000) (c : Nat) :
    Con Try.prog 102 [s.ref 4, .int .i64 owner] (s.wood 4 TLine.encO TLine.inn) c fun r O _ => r = .tup [] ∧ O = (s.lmap (·.map (recL owner))).wood 4 TLine.encO TLine.inn := by
  cases s with
  | mk t l => exact spec_recoverO1 (l := l) hn hz t c
  | nil =>
    refine con_of c102 (by simp [F102]) ?_
    unfold F102
    simp [ref_nil]
    refine loop_drop 0 (fun i e H c' => e 0 = .nsl ∧ e 4 = .int .i64 0 ∧ H = []) ⟨rfl, rfl, rfl⟩ ?_
    intro i e H c' hi ⟨e0, e4, hH⟩ N hN
    subst hH
    simp [e0, e4]
    exact fin_all ⟨rfl, rfl⟩
theorem impl_recoverO {s : SL TLine} {owner : Int} (hn : s.list.length ≤ 1048576) (hz : ∀ x, x ∈ s.list → 0 ≤ x.Seq ∧ x.Seq ≤ 1000000000000000) (c : Nat) :
    Con Try.prog 103 [s.ref 4, .int .i64 owner] (s.wood 4 TLine.encO TLine.inn) c fun r O _ => r = .tup [] ∧ O = (s.lmap (·.map (recL owner))).wood 4 TLine.encO TLine.inn := by
  cases s with
  | mk t l => exact impl_recoverO1 (l := l) hn hz t c
  | nil =>
    refine con_of c103 (by simp [F103]) ?_
    unfold F103
    simp [ref_nil]
    refine loop_drop 0 (fun i e H c' => e 7 = .int .i64 0 ∧ e 8 = .int .i64 0 ∧ H = []) ⟨rfl, rfl, rfl⟩ ?_
    intro i e H c' hi ⟨e7, e8, hH⟩ N hN
    subst hH
    simp [e7, e8]
    exact fin_all ⟨rfl, rfl⟩

theorem areLines_seq {l : List TLine} (h : areLines l = true) : ∀ x, x ∈ l → 0 ≤ x.Seq ∧ x.Seq ≤ 1000000000000 := fun x hx => by
  unfold areLines at h
  simp only [Bool.and_eq_true, List.all_eq_true] at h
  have := h.1 x hx
  unfold lineOk at this
  simp only [Bool.and_eq_true] at this
  exact inR_true this.1.1.1.1
/-- The objects stand in no order, and some may be let go. -/
theorem con_perm {P : Program} {f : Nat} {args : List AV} {H : List AObj} {c : Nat} {Q Q' : AV → List AObj → Nat → Prop} (h : Con P f args H c Q) (hq : ∀ r H' c', Q r H' c' → ∃ Hs H2, Hs.Sublist H' ∧ H2.Perm Hs ∧ Q' r H2 c') : Con P f args H c Q' := by
  intro G w vs e I hs hr
  refine (h G w vs e I hs hr).mono fun en w' ⟨v, res, H', G', h1, h2, h3, h4, h5⟩ => ?_
  obtain ⟨Hs, H2, hsub, hp, q⟩ := hq _ _ _ h2
  have h3 := h3.drop hsub
  have h4 := h4.drop hsub
  have ht : ∀ t, t ∈ tags H2 ↔ t ∈ tags Hs := fun t => (hp.map _).mem_iff
  refine ⟨v, res, H2, G', h1, q, ⟨h3.x, h3.os, h3.tape, h3.output, h3.size, h3.frame, h3.newm, fun t a b => h3.oldH t a ((ht t).1 b), h3.oldF⟩, ⟨h4.fz, fun o ho => h4.obj o (hp.mem_iff.1 ho), fun t a => h4.nfz t ((ht t).1 a), (hp.map _).nodup_iff.2 h4.nodup, fun t t' a b => h4.inj t t' (a.imp id (ht t).1) (b.imp id (ht t').1)⟩, h5⟩

theorem renSet {t w i : Nat} {rows : List (List AV)} {row row' : List AV} (hl : row'.length = row.length) (h : ∀ (j : Nat) (a a' : AV), row[j]? = some a → row'[j]? = some a' → a' = a ∨ (a'.cell = true ∧ View [] a a')) :
    RenO [] ⟨false, t, w, rows.set i row⟩ ⟨false, t, w, rows.set i row'⟩ where
  mp := rfl
  tag := rfl
  w := rfl
  len := by simp
  maps h := by cases h
  row r x x' h1 h2 := by
    by_cases hr : i = r
    · subst hr
      rw [List.getElem?_set_self'] at h1 h2
      simp only [Option.map_eq_map, Option.map_eq_some_iff, Function.const] at h1 h2
      obtain ⟨_, _, rfl⟩ := h1
      obtain ⟨_, _, rfl⟩ := h2
      exact ⟨hl, h⟩
    · rw [List.getElem?_set_ne hr] at h1 h2
      rw [h1] at h2; cases h2
      exact ⟨rfl, fun j a a' h3 h4 => by rw [h3] at h4; cases h4; exact .inl rfl⟩

theorem inns_at {l : List TLine} {i : Nat} (h : i < l.length) : inns l = inns (l.take i) ++ (l[i].inn ++ inns (l.drop (i + 1))) := by
  rw [← inns_cons, ← List.drop_eq_getElem_cons h, ← inns_app, List.take_append_drop]
theorem inns_set {l : List TLine} {i : Nat} (h : i < l.length) (z : TLine) : inns (l.set i z) = inns (l.take i) ++ (z.inn ++ inns (l.drop (i + 1))) := by
  rw [List.set_eq_take_append_cons_drop, if_pos h, inns_app, inns_cons]

end A
end Go.Proofs.Ytgiiipbpadgcgaa

/-
  The type Actor as0 the contracts speak of it. No condition.
-/

namespace Go.Proofs.Ytgiiipbpadgcgaa
namespace A
set_option linter.unusedVariables false
set_option linter.unusedSimpArgs false

structure TActor where
  Writer : Bool
  Line : Int
  Version : Int
  Words : SL Int
  State : Int
  At : Int
  Seq : Int
def TActor.enc (s : TActor) : List AV := [.bool s.Writer, .int .i64 s.Line, .int .i64 s.Version, s.Words.av 1 encI, .int .i64 s.State, .int .i64 s.At, .int .i64 s.Seq]
@[simp] theorem TActor.len (s : TActor) : s.enc.length = 7 := (rfl)
@[simp] theorem TActor.all (s : TActor) : s.enc.take 7 = s.enc := (rfl)
@[simp] theorem TActor.g0 (s : TActor) (K : AV → Prop) : getW s.enc 0 K = K (.bool s.Writer) := by simp [TActor.enc]
@[simp] theorem TActor.g1 (s : TActor) (K : AV → Prop) : getW s.enc 1 K = K (.int .i64 s.Line) := by simp [TActor.enc]
@[simp] theorem TActor.g2 (s : TActor) (K : AV → Prop) : getW s.enc 2 K = K (.int .i64 s.Version) := by simp [TActor.enc]
@[simp] theorem TActor.g3 (s : TActor) (K : AV → Prop) : getW s.enc 3 K = K (s.Words.av 1 encI) := by simp [TActor.enc]
@[simp] theorem TActor.g4 (s : TActor) (K : AV → Prop) : getW s.enc 4 K = K (.int .i64 s.State) := by simp [TActor.enc]
@[simp] theorem TActor.g5 (s : TActor) (K : AV → Prop) : getW s.enc 5 K = K (.int .i64 s.At) := by simp [TActor.enc]
@[simp] theorem TActor.g6 (s : TActor) (K : AV → Prop) : getW s.enc 6 K = K (.int .i64 s.Seq) := by simp [TActor.enc]
theorem TActor.cells (s : TActor) : ∀ a, a ∈ s.enc → a.cell = true := by simp [TActor.enc]
def TActor.sz (s : TActor) : Nat := (szIntS s.Words)
def TActor.ok (s : TActor) : Prop := okIntS s.Words
def TActor.con (s : TActor) : TActor := { s with Words := s.Words.pcon }
end A
end Go.Proofs.Ytgiiipbpadgcgaa

/-
  Actors that stay objects; the accesses of a writer and of a reader, of the reference and of the program. No condition.
-/



namespace Go.Proofs.Ytgiiipbpadgcgaa
namespace A
set_option linter.unusedVariables false
set_option linter.unusedSimpArgs false
set_option maxRecDepth 100000

theorem freeze_nil (G : Gh) : G.freeze [] = G := by
  cases G; simp [Gh.freeze, tags]
/-- A contract's objects may stand in another order, and their cells may be named otherwise. -/
theorem con_in {P : Program} {f : Nat} {args args' : List AV} {H Hm H' : List AObj} {c : Nat} {Q : AV → List AObj → Nat → Prop} (h : Con P f args' H' c Q) (hv : Views [] args args') (hp : Hm.Perm H) (hr : Rens [] Hm H') : Con P f args H c Q := by
  intro G w vs e I hs hrep
  have ht : ∀ t, t ∈ tags H' ↔ t ∈ tags H := fun t => by rw [hr.tags_eq]; exact (hp.map _).mem_iff
  have I1 : Inv G Hm w.heap := ⟨I.fz, fun o ho => I.obj o (hp.mem_iff.1 ho), fun t a => I.nfz t ((hp.map _).mem_iff.1 a), (hp.map _).nodup_iff.2 I.nodup, fun t t' a b => I.inj t t' (a.imp id (hp.map _).mem_iff.1) (b.imp id (hp.map _).mem_iff.1)⟩
  have I2 := Inv.ren (S := []) I1 (fun o ho => ho) (by simp) (by rw [freeze_nil]; exact I1) hr
  rw [freeze_nil] at I2
  obtain ⟨v1, v2⟩ := hv.spec
  refine (h G w vs e I2 (hs.trans v1) fun j a' hj => ?_).mono fun en w' ⟨v, res, H2, G', q1, q2, q3, q4, q5⟩ => ⟨v, res, H2, G', q1, q2, ⟨q3.x, q3.os, q3.tape, q3.output, q3.size, fun b hb hn => q3.frame b hb fun t hm => hn t ((ht t).1 hm), fun t a b => (q3.newm t a b).imp id fun ⟨u, hu, he⟩ => ⟨u, (ht u).1 hu, he⟩, fun t a b => (ht t).1 (q3.oldH t a b), fun t a b => (q3.oldF t a b).imp id (ht t).1⟩, q4, q5⟩
  obtain ⟨a, haj⟩ := get_of_len v1 hj
  have := (v2 j a a' haj hj).rep I1 (by simp) (hrep j a haj)
  rwa [freeze_nil] at this
/-- What is not handed in stays cs it was. -/
theorem con_frame {P : Program} {f : Nat} {args : List AV} {H R : List AObj} {c : Nat} {Q : AV → List AObj → Nat → Prop} (h : Con P f args H c Q) : Con P f args (H ++ R) c fun r O c' => ∃ O1, Q r O1 c' ∧ O = O1 ++ R := by
  intro G w vs e I hs hr
  have eT : ∀ X Y : List AObj, tags (X ++ Y) = tags X ++ tags Y := fun X Y => by simp [tags]
  have hnd := I.nodup
  rw [eT] at hnd
  have hN := List.nodup_append.1 hnd
  have inH : ∀ t, t ∈ tags H → t ∈ tags (H ++ R) := fun t ht => by rw [eT]; exact List.mem_append_left _ ht
  have inR : ∀ t, t ∈ tags R → t ∈ tags (H ++ R) := fun t ht => by rw [eT]; exact List.mem_append_right _ ht
  have ltR : ∀ t, t ∈ tags R → t < G.c := fun t ht => I.lt (inR t ht)
  have I1 : Inv G H w.heap := I.drop (List.sublist_append_left _ _)
  refine (h G w vs e I1 hs hr).mono fun en w' ⟨v, res, O1, G2, q1, q2, q3, q4, q5⟩ => ?_
  have notO : ∀ t, t ∈ tags R → t ∉ tags O1 := fun t ht ho => hN.2.2 t (q3.oldH t (ltR t ht) ho) t ht rfl
  have hO : ∀ t, t ∈ tags (O1 ++ R) → t ∈ tags O1 ∨ t ∈ tags R := fun t ht => by rw [eT] at ht; exact List.mem_append.1 ht
  refine ⟨v, res, O1 ++ R, G2, q1, ⟨O1, q2, rfl⟩, ⟨q3.x, q3.os, q3.tape, q3.output, q3.size, fun b hb hn => q3.frame b hb fun t ht => hn t (inH t ht), fun t a b => (q3.newm t a b).imp id fun ⟨u, hu, he⟩ => ⟨u, inH u hu, he⟩, fun t a b => ?_, fun t a b => (q3.oldF t a b).imp id (inH t)⟩, ⟨q4.fz, fun o ho => ?_, fun t ht hF => ?_, ?_, ?_⟩, q5⟩
  · rcases hO t b with b | b
    · exact inH t (q3.oldH t a b)
    · exact inR t b
  · rcases List.mem_append.1 ho with ho | ho
    · exact q4.obj o ho
    · have hob := I.obj o (List.mem_append_right _ ho)
      refine hob.ext q3.x (q3.frame _ hob.block fun t ht he => ?_)
      have : t = o.tag := I.inj t o.tag (.inr (inH t ht)) (.inr (inR _ (mem_tags ho))) he
      exact hN.2.2 t ht _ (mem_tags ho) this
  · rcases hO t ht with b | b
    · exact q4.nfz t b hF
    · rcases q3.oldF t (ltR t b) hF with h1 | h1
      · exact I.nfz t (inR t b) h1
      · exact hN.2.2 t h1 t b rfl
  · rw [eT]
    exact List.nodup_append.2 ⟨q4.nodup, hN.2.1, fun a ha b hb hab => by subst hab; exact notO a hb ha⟩
  · have key : ∀ t, (G2.Fz t ∨ t ∈ tags (O1 ++ R)) → (G2.Fz t ∨ t ∈ tags O1) ∨ t ∈ tags R := fun t ht => by
      rcases ht with h1 | h1
      · exact .inl (.inl h1)
      · rcases hO t h1 with h2 | h2
        · exact .inl (.inr h2)
        · exact .inr h2
    have cross : ∀ t u, (G2.Fz t ∨ t ∈ tags O1) → u ∈ tags R → G2.m t = G2.m u → t = u := fun t u hl hu he => by
      have huc := ltR u hu
      rw [q3.x.m u huc] at he
      rcases Nat.lt_or_ge t G.c with htc | htc
      · rw [q3.x.m t htc] at he
        refine I.inj t u ?_ (.inr (inR u hu)) he
        rcases hl with h1 | h1
        · exact (q3.oldF t htc h1).imp id (inH t)
        · exact .inr (inH t (q3.oldH t htc h1))
      · have htl : t < G2.c := by
          rcases hl with h1 | h1
          · exact (q4.fz t h1).1
          · exact q4.lt h1
        obtain ⟨o, ho, rfl⟩ := of_mem_tags hu
        rcases q3.newm t htc htl with h3 | ⟨y, hy, h3⟩
        · have := (I.obj o (List.mem_append_right _ ho)).block
          omega
        · have : y = o.tag := I.inj y o.tag (.inr (inH y hy)) (.inr (inR _ hu)) (h3.symm.trans he)
          exact absurd rfl (hN.2.2 y hy _ (this ▸ hu))
    intro t t' h1 h2 he
    rcases key t h1 with k1 | k1 <;> rcases key t' h2 with k2 | k2
    · exact q4.inj t t' k1 k2 he
    · exact cross t t' k1 k2 he
    · exact (cross t' t k2 k1 he.symm).symm
    · rw [q3.x.m t (ltR t k1), q3.x.m t' (ltR t' k2)] at he
      exact I.inj t t' (.inr (inR t k1)) (.inr (inR t' k2)) he

def TActor.encO (s : TActor) : List AV := [.bool s.Writer, .int .i64 s.Line, .int .i64 s.Version, s.Words.ref 1, .int .i64 s.State, .int .i64 s.At, .int .i64 s.Seq]
def TActor.inn (s : TActor) : List AObj := s.Words.wood 1 encI noInn
def encY (k : Nat) (s : TActor) : List AV := [.bool s.Writer, .int .i64 s.Line, .int .i64 s.Version, s.Words.at_ k 1, .int .i64 s.State, .int .i64 s.At, .int .i64 s.Seq]
def innA (l : List TActor) : List AObj := l.flatMap TActor.inn
@[simp] theorem TActor.o0 (s : TActor) (K : AV → Prop) : getW s.encO 0 K = K (.bool s.Writer) := by simp [TActor.encO]
@[simp] theorem TActor.o1 (s : TActor) (K : AV → Prop) : getW s.encO 1 K = K (.int .i64 s.Line) := by simp [TActor.encO]
@[simp] theorem TActor.o2 (s : TActor) (K : AV → Prop) : getW s.encO 2 K = K (.int .i64 s.Version) := by simp [TActor.encO]
@[simp] theorem TActor.o3 (s : TActor) (K : AV → Prop) : getW s.encO 3 K = K (s.Words.ref 1) := by simp [TActor.encO]
@[simp] theorem TActor.o4 (s : TActor) (K : AV → Prop) : getW s.encO 4 K = K (.int .i64 s.State) := by simp [TActor.encO]
@[simp] theorem TActor.o5 (s : TActor) (K : AV → Prop) : getW s.encO 5 K = K (.int .i64 s.At) := by simp [TActor.encO]
@[simp] theorem TActor.o6 (s : TActor) (K : AV → Prop) : getW s.encO 6 K = K (.int .i64 s.Seq) := by simp [TActor.encO]
theorem TActor.lenO (s : TActor) : s.encO.length = 7 := (rfl)
def TLine.pl (x : TLine) : PL := ⟨x.Seq, x.Owner, x.Version, x.Words.list⟩
def TActor.pa (a : TActor) : PA := ⟨a.Writer, a.Line, a.Version, a.Words.list, a.State, a.At, a.Seq⟩

theorem set_same {α : Type} {l : List α} {i : Nat} {x : α} (h : l[i]? = some x) : l.set i x = l := by
  refine List.ext_getElem? fun j => ?_
  rw [List.getElem?_set]
  split
  · rename_i e; subst e; rw [if_pos (List.getElem?_eq_some_iff.1 h).1, h]
  · rfl
/-- Naming: the words of one line, of one actor, by their places. -/
theorem ren_line (t i k : Nat) {l : List TLine} {x : TLine} (h : l[i]? = some x) : RenO [] ⟨false, t, 4, l.map TLine.encO⟩ ⟨false, t, 4, (l.map TLine.encO).set i (encX k x)⟩ := by
  have e : (l.map TLine.encO).set i x.encO = l.map TLine.encO := set_same (by simp [h])
  have := renSet (t := t) (w := 4) (i := i) (rows := l.map TLine.encO) (row := x.encO) (row' := encX k x) rfl fun j a a' h1 h2 => by
    match j, h1, h2 with
    | 0, h1, h2 => simp [TLine.encO] at h1; simp [encX] at h2; exact .inl (by rw [← h1, ← h2])
    | 1, h1, h2 => simp [TLine.encO] at h1; simp [encX] at h2; exact .inl (by rw [← h1, ← h2])
    | 2, h1, h2 => simp [TLine.encO] at h1; simp [encX] at h2; exact .inl (by rw [← h1, ← h2])
    | 3, h1, h2 =>
      simp [TLine.encO] at h1; simp [encX] at h2
      subst h1; subst h2
      exact .inr ⟨cell_at _ _ _, view_at _ _ _ _⟩
    | j + 4, h1, h2 => simp [TLine.encO] at h1
  rwa [e] at this
theorem ren_actor (t j k : Nat) {l : List TActor} {a : TActor} (h : l[j]? = some a) : RenO [] ⟨false, t, 7, l.map TActor.encO⟩ ⟨false, t, 7, (l.map TActor.encO).set j (encY k a)⟩ := by
  have e : (l.map TActor.encO).set j a.encO = l.map TActor.encO := set_same (by simp [h])
  have := renSet (t := t) (w := 7) (i := j) (rows := l.map TActor.encO) (row := a.encO) (row' := encY k a) rfl fun j a a' h1 h2 => by
    match j, h1, h2 with
    | 0, h1, h2 => simp [TActor.encO] at h1; simp [encY] at h2; exact .inl (by rw [← h1, ← h2])
    | 1, h1, h2 => simp [TActor.encO] at h1; simp [encY] at h2; exact .inl (by rw [← h1, ← h2])
    | 2, h1, h2 => simp [TActor.encO] at h1; simp [encY] at h2; exact .inl (by rw [← h1, ← h2])
    | 3, h1, h2 =>
      simp [TActor.encO] at h1; simp [encY] at h2
      subst h1; subst h2
      exact .inr ⟨cell_at _ _ _, view_at _ _ _ _⟩
    | 4, h1, h2 => simp [TActor.encO] at h1; simp [encY] at h2; exact .inl (by rw [← h1, ← h2])
    | 5, h1, h2 => simp [TActor.encO] at h1; simp [encY] at h2; exact .inl (by rw [← h1, ← h2])
    | 6, h1, h2 => simp [TActor.encO] at h1; simp [encY] at h2; exact .inl (by rw [← h1, ← h2])
    | j + 7, h1, h2 => simp [TActor.encO] at h1
  rwa [e] at this
/-- Back: a line's row whose words are named by any place. -/
theorem ren_lineB (t i k : Nat) (l : List TLine) (x : TLine) : RenO [] ⟨false, t, 4, (l.map TLine.encO).set i (encX k x)⟩ ⟨false, t, 4, (l.set i x).map TLine.encO⟩ := by
  rw [List.map_set]
  refine renSet rfl fun j a a' h1 h2 => ?_
  match j, h1, h2 with
  | 0, h1, h2 => simp [encX] at h1; simp [TLine.encO] at h2; exact .inl (by rw [← h1, ← h2])
  | 1, h1, h2 => simp [encX] at h1; simp [TLine.encO] at h2; exact .inl (by rw [← h1, ← h2])
  | 2, h1, h2 => simp [encX] at h1; simp [TLine.encO] at h2; exact .inl (by rw [← h1, ← h2])
  | 3, h1, h2 =>
    simp [encX] at h1; simp [TLine.encO] at h2
    subst h1; subst h2
    exact .inr ⟨cell_ref _ _, view_at' _ _ _ _⟩
  | j + 4, h1, h2 => simp [encX] at h1
theorem ren_actorB (t i k : Nat) (l : List TActor) (x : TActor) : RenO [] ⟨false, t, 7, (l.map TActor.encO).set i (encY k x)⟩ ⟨false, t, 7, (l.set i x).map TActor.encO⟩ := by
  rw [List.map_set]
  refine renSet rfl fun j a a' h1 h2 => ?_
  match j, h1, h2 with
  | 0, h1, h2 => simp [encY] at h1; simp [TActor.encO] at h2; exact .inl (by rw [← h1, ← h2])
  | 1, h1, h2 => simp [encY] at h1; simp [TActor.encO] at h2; exact .inl (by rw [← h1, ← h2])
  | 2, h1, h2 => simp [encY] at h1; simp [TActor.encO] at h2; exact .inl (by rw [← h1, ← h2])
  | 3, h1, h2 =>
    simp [encY] at h1; simp [TActor.encO] at h2
    subst h1; subst h2
    exact .inr ⟨cell_ref _ _, view_at' _ _ _ _⟩
  | 4, h1, h2 => simp [encY] at h1; simp [TActor.encO] at h2; exact .inl (by rw [← h1, ← h2])
  | 5, h1, h2 => simp [encY] at h1; simp [TActor.encO] at h2; exact .inl (by rw [← h1, ← h2])
  | 6, h1, h2 => simp [encY] at h1; simp [TActor.encO] at h2; exact .inl (by rw [← h1, ← h2])
  | j + 7, h1, h2 => simp [encY] at h1

@[simp] theorem wood_nilI : (SL.nil : SL Int).wood 1 encI noInn = [] := rfl
/-- One line and one actor have been turned; what else there was is there, and perhaps more. -/
def Turned (tl ta i j : Nat) (l : List TLine) (cs : List TActor) (x : TLine) (a : TActor) (me : Int) (R : List AObj) (r : AV) (O : List AObj) : Prop :=
  r = .tup [] ∧ ∃ (x' : TLine) (a' : TActor) (T J : List AObj), (x'.pl, a'.pa) = acc me x.pl a.pa ∧ O = ⟨false, tl, 4, (l.set i x').map TLine.encO⟩ :: ⟨false, ta, 7, (cs.set j a').map TActor.encO⟩ :: T ∧
    T.Perm (a'.inn ++ (x'.inn ++ (J ++ R))) ∧ (a.inn ++ (x.inn ++ R)).length ≤ T.length ∧ ∀ o, o ∈ J → ∀ T, AvRows T o
theorem tidy0 : ∀ o, o ∈ ([] : List AObj) → ∀ T, AvRows T o := fun o h => by cases h
theorem tidy1 {X : AObj} (h : ∀ T, AvRows T X) : ∀ o, o ∈ [X] → ∀ T, AvRows T o := fun o ho => by cases List.mem_singleton.1 ho; exact h
theorem tidyC {X : AObj} {l : List AObj} (h : ∀ T, AvRows T X) (hl : ∀ o, o ∈ l → ∀ T, AvRows T o) : ∀ o, o ∈ X :: l → ∀ T, AvRows T o := fun o ho => by
  rcases List.mem_cons.1 ho with rfl | ho
  · exact h
  · exact hl o ho
theorem tidyA {k l : List AObj} (hk : ∀ o, o ∈ k → ∀ T, AvRows T o) (hl : ∀ o, o ∈ l → ∀ T, AvRows T o) : ∀ o, o ∈ k ++ l → ∀ T, AvRows T o := fun o ho => (List.mem_append.1 ho).elim (hk o) (hl o)
theorem tidyB (t : Nat) (v : Int) : ∀ T, AvRows T ⟨false, t, 1, [[.int .i64 v]]⟩ := fun T => avRows_of fun row hr a ha => by
  simp at hr; subst hr; simp at ha; subst ha; exact .int
theorem tidyX (t : Nat) (a b d : Int) {w : AV} (hw : Free w) : ∀ T, AvRows T ⟨false, t, 4, [[.int .i64 a, .int .i64 b, .int .i64 d, w]]⟩ := fun T => avRows_of fun row hr x hx => by
  simp at hr; subst hr; simp at hx
  rcases hx with rfl | rfl | rfl | rfl
  · exact .int
  · exact .int
  · exact .int
  · exact hw T
theorem free_atI (i w : Nat) (s : SL Int) : Free (s.at_ i w) := fun T => by cases s <;> constructor
theorem free_r (i t w n : Nat) : Free (.ref i t w n) := fun _ => .ref
theorem tidyI (s : SL Int) : ∀ o, o ∈ s.wood 1 encI noInn → ∀ T, AvRows T o := flat_free encI_flat 1 s

theorem fin_turned {tl ta i j k1 k2 c : Nat} {l : List TLine} {cs : List TActor} {x x' : TLine} {a a' : TActor} {me : Int} {R T J : List AObj} {v : AV} (hv : v = .tup []) (he : (x'.pl, a'.pa) = acc me x.pl a.pa)
    (hp : T.Perm (a'.inn ++ (x'.inn ++ (J ++ R)))) (hl : (a.inn ++ (x.inn ++ R)).length ≤ T.length) (hJ : ∀ o, o ∈ J → ∀ T, AvRows T o) :
    finW (fun r O _ => Turned tl ta i j l cs x a me R r O) v (⟨false, tl, 4, (l.map TLine.encO).set i (encX k1 x')⟩ :: ⟨false, ta, 7, (cs.map TActor.encO).set j (encY k2 a')⟩ :: T) c :=
  fin_ren (List.Sublist.refl _) (.cons (ren_lineB tl i k1 l x') (.cons (ren_actorB ta j k2 cs a') (.refl _ _))) (.refl _) ⟨hv, x', a', T, J, he, rfl, hp, hl, hJ⟩

theorem iaddr_at {k : Nat} {s : SL Int} {n : Nat} {K : AV → Prop} (h : n < s.list.length) (hk : ∀ t l, s = .mk t l → K (.ptr k t 1 n 0)) : iaddrW 1 (s.at_ k 1) (.int .i64 n) K := by
  cases s with
  | nil => simp at h
  | mk t l => exact ⟨rfl, by omega, by simp at h ⊢; omega, by simpa using hk t l rfl⟩

theorem impl_write {tl ta i j c : Nat} {l : List TLine} {cs : List TActor} {x : TLine} {a : TActor} {R : List AObj} {n : Nat} (hn : n ≤ 2097152) (hx : l[i]? = some x) (ha : cs[j]? = some a) (gx : GdL n x.pl) (ga : GdA n a.pa) (hs : a.State = 1) (hw : a.Writer = true) (me : Int) :
    Con Try.prog 149 [.ptr 0 tl 4 i 0, .ptr 1 ta 7 j 0] (⟨false, tl, 4, l.map TLine.encO⟩ :: ⟨false, ta, 7, cs.map TActor.encO⟩ :: (a.inn ++ (x.inn ++ R))) c fun r O _ => Turned tl ta i j l cs x a me R r O := by
  have hi : i < l.length := (List.getElem?_eq_some_iff.1 hx).1
  have hj : j < cs.length := (List.getElem?_eq_some_iff.1 ha).1
  obtain ⟨x1, x2, x3⟩ := gx
  obtain ⟨a1, a2, a3, a4, a5, a6⟩ := ga
  simp only [TLine.pl, TActor.pa] at x1 x2 x3 a1 a2 a3 a4 a5 a6
  have w1 : IntKind.i64.wrap (a.At + 1) = a.At + 1 := wrap64 (by omega) (by omega)
  have w2 : IntKind.i64.wrap (a.At - 1) = a.At - 1 := wrap64 (by omega) (by omega)
  have w3 : IntKind.i64.wrap (x.Seq + 1) = x.Seq + 1 := wrap64 (by omega) (by omega)
  refine con_in (args' := [.ptr 0 tl 4 i 0, .ptr 1 ta 7 j 0]) (H' := ⟨false, tl, 4, (l.map TLine.encO).set i (encX 3 x)⟩ :: ⟨false, ta, 7, (cs.map TActor.encO).set j (encY 2 a)⟩ :: (a.inn ++ (x.inn ++ R))) ?_ (Views.refl _ _) (List.Perm.refl _) (.cons (ren_line tl i 3 hx) (.cons (ren_actor ta j 2 ha) (.refl _ _)))
  refine con_of c149 (by simp [F149]) ?_
  unfold F149
  have w4 : IntKind.i64.wrap 1 = 1 := by decide
  by_cases h0 : a.At = 0
  · simp [encX, encY, hi, hj, h0, putA, w4]
    exact fin_turned (k1 := 3) (k2 := 2) (x' := ⟨x.Seq, x.Owner, a.Version, .nil⟩) (a' := ⟨a.Writer, a.Line, a.Version, a.Words, a.State, 1, a.Seq⟩) (J := x.inn) rfl (by simp [acc, TLine.pl, TActor.pa, hs, hw, h0]) (List.Perm.refl _) (Nat.le_refl _) (tidyI x.Words)
  by_cases h1 : a.At ≤ a.Words.list.length
  · obtain ⟨m, hm⟩ : ∃ m : Nat, a.At = (m : Int) + 1 := ⟨(a.At - 1).toNat, by omega⟩
    cases hA : a.Words with
    | nil => rw [hA] at h1; simp at h1; omega
    | mk tw wa =>
      rw [hA] at h1 a6
      simp only [SL.list_mk] at h1 a6
      have hmm : m < wa.length := by omega
      have hv : wa[m]? = some wa[m] := List.getElem?_eq_getElem hmm
      have hg : ((m : Int) + 1 - 1) = m := by omega
      have h1' : (m : Int) + 1 ≤ wa.length := by omega
      have h0' : ¬ (m : Int) + 1 = 0 := by omega
      have w5 : IntKind.i64.wrap (m : Int) = m := wrap64 (by omega) (by omega)
      have w6 : IntKind.i64.wrap ((m : Int) + 1) = m + 1 := wrap64 (by omega) (by omega)
      have w7 : IntKind.i64.wrap ((m : Int) + 1 + 1) = m + 1 + 1 := wrap64 (by omega) (by omega)
      have m1 : (x.Words.list.length + 1) * 8 ≤ 140737488355328 := by omega
      have m2 : x.Words.list.length + 1 ≤ mx := by unfold mx; omega
      have hgd : a.Words.list.getD m 0 = wa[m] := by rw [hA]; simp [List.getD, hv]
      have hacc : ∀ t, (TLine.pl ⟨x.Seq, x.Owner, x.Version, .mk t (x.Words.list ++ [wa[m]])⟩, TActor.pa ⟨a.Writer, a.Line, a.Version, a.Words, a.State, m + 1 + 1, a.Seq⟩) = acc me x.pl a.pa := fun t => by
        simp [acc, TLine.pl, TActor.pa, hs, hw, hm, hA, h0', h1', hv]
      generalize wa[m] = v at hv hacc
      cases hX : x.Words with
      | nil =>
        simp [encX, encY, hi, hj, hm, h0', h1', putA, w5, w6, w7, hg, hA, hX, SL.at_, TActor.inn, TLine.inn, flat_wood]
        rw [hX] at m1 m2 hacc
        simp only [SL.list_nil, SL.list_mk, List.nil_append] at m1 m2 hacc
        refine ⟨hmm, v, hv, ?_⟩
        simp [encX, encY, hi, hj, hm, putA, w7, m1, m2]
        refine ⟨by unfold mx; omega, ?_⟩
        have hp : (⟨false, tw, 1, wa.map encI⟩ :: (R ++ [⟨false, c, 1, [[AV.int IntKind.i64 v]]⟩, ⟨false, c + 1, 1, [[AV.int IntKind.i64 v]]⟩]) : List AObj).Perm ((TActor.mk a.Writer a.Line a.Version (.mk tw wa) a.State (m + 1 + 1) a.Seq).inn ++ ((TLine.mk x.Seq x.Owner x.Version (.mk (c + 1) [v])).inn ++ ([⟨false, c, 1, [[AV.int IntKind.i64 v]]⟩] ++ R))) := by
          simp only [TActor.inn, TLine.inn, flat_wood, List.singleton_append]
          refine List.Perm.cons _ ?_
          refine List.perm_append_comm.trans ?_
          exact List.Perm.swap _ _ _
        have := fin_turned (tl := tl) (ta := ta) (i := i) (j := j) (l := l) (cs := cs) (c := c + 1 + 1) (k1 := R.length + 1 + 1 + 1 + 1) (k2 := 2) (v := oneOf []) rfl (hA ▸ hacc (c + 1)) hp (by simp [TActor.inn, TLine.inn, hA, hX, flat_wood]) (tidy1 (tidyB _ _))
        simpa [encX, encY, SL.at_] using this

      | mk tx wx =>
        simp [encX, encY, hi, hj, hm, h0', h1', putA, w5, w6, w7, hg, hA, hX, SL.at_, TActor.inn, TLine.inn, flat_wood]
        rw [hX] at m1 m2 hacc
        simp only [SL.list_nil, SL.list_mk, List.nil_append] at m1 m2 hacc
        refine ⟨hmm, v, hv, ?_⟩
        simp [encX, encY, hi, hj, hm, putA, w7, m1, m2]
        have hp : (⟨false, tw, 1, wa.map encI⟩ :: ⟨false, c + 1, 1, wx.map encI ++ [[AV.int IntKind.i64 v]]⟩ :: (R ++ [⟨false, c, 1, [[AV.int IntKind.i64 v]]⟩]) : List AObj).Perm ((TActor.mk a.Writer a.Line a.Version (.mk tw wa) a.State (m + 1 + 1) a.Seq).inn ++ ((TLine.mk x.Seq x.Owner x.Version (.mk (c + 1) (wx ++ [v]))).inn ++ ([⟨false, c, 1, [[AV.int IntKind.i64 v]]⟩] ++ R))) := by
          simp only [TActor.inn, TLine.inn, flat_wood, List.singleton_append, List.map_append]
          refine List.Perm.cons _ (List.Perm.cons _ ?_)
          exact List.perm_append_comm
        have := fin_turned (tl := tl) (ta := ta) (i := i) (j := j) (l := l) (cs := cs) (c := c + 1 + 1) (k1 := 3) (k2 := 2) (v := oneOf []) rfl (hA ▸ hacc (c + 1)) hp (by simp [TActor.inn, TLine.inn, hA, hX, flat_wood]) (tidy1 (tidyB _ _))
        simpa [encX, encY, SL.at_] using this

  · simp [encX, encY, hi, hj, h0, h1, putA, w1, w2, w3]
    exact fin_turned (k1 := 3) (k2 := 2) (x' := ⟨x.Seq + 1, 0, x.Version, x.Words⟩) (a' := ⟨a.Writer, a.Line, a.Version, a.Words, 2, a.At, a.Seq⟩) (J := []) rfl (by simp [acc, TLine.pl, TActor.pa, hs, hw, h0, h1]) (List.Perm.refl _) (Nat.le_refl _) tidy0
end A
end Go.Proofs.Ytgiiipbpadgcgaa
