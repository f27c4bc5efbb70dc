import Derived.Test.YtfcimcoanlgldaaGreatProg
import Derived.WalkKit
import Derived.Deep.RegionLaw
import Derived.Lib.Walk
import Derived.Lib.SliceRun
import Derived.Sort.WalkB12
import Derived.Shelf.RegionOpenPlain
import Derived.Test.YtfcimcoanlgldaaGreatB10

/-
  FindSession of the reference and of the program are the same plain function of the list and the name. No condition.
-/


namespace Go.Proofs.YtfcimcoanlgldaaGreat
namespace A
set_option linter.unusedVariables false
set_option linter.unusedSimpArgs false
set_option maxRecDepth 100000

def findS (id : List UInt8) : List TSession → Nat → Int
  | [], _ => -1
  | x :: l, i => if x.Id = id then i else findS id l (i + 1)

theorem findS_hit {id : List UInt8} {l : List TSession} {i : Nat} (h : i < l.length) (e : l[i].Id = id) : findS id (l.drop i) i = i := by
  rw [List.drop_eq_getElem_cons h]; simp [findS, e]
theorem findS_miss {id : List UInt8} {l : List TSession} {i : Nat} (h : i < l.length) (e : l[i].Id ≠ id) : findS id (l.drop i) i = findS id (l.drop (i + 1)) (i + 1) := by
  rw [List.drop_eq_getElem_cons h]; simp [findS, e]
theorem findS_con (id : List UInt8) : ∀ (l : List TSession) (i : Nat), findS id (l.map TSession.con) i = findS id l i
  | [], _ => rfl
  | x :: l, i => by
    have : x.con.Id = x.Id := rfl
    simp [findS, this, findS_con id l]

theorem spec_find {s : SL TSession} {id : List UInt8} (hn : s.list.length ≤ mx) : Fnc Tryz.prog 92 [s.av 4 TSession.enc, .str id] (.int .i64 (findS id s.list 0)) := by
  refine fn_of c92 (by simp [F92]) fun c => ?_
  unfold F92
  simp
  refine loop_drop s.list.length (fun i e H c' => e 0 = s.av 4 TSession.enc ∧ e 1 = .str id ∧ e 5 = .int .i64 i ∧ findS id (s.list.drop i) i = findS id s.list 0 ∧ H = []) ⟨rfl, rfl, rfl, by simp, rfl⟩ ?_
  intro i e H c hi ⟨e0, e1, e5, hall, hH⟩ N hN
  subst hH
  simp [e0, e1, e5]
  refine ⟨fun h => ⟨s.list[i], List.getElem?_eq_getElem h, ?_⟩, fun h => ?_⟩
  · simp [e0, e1, e5]
    by_cases hq : s.list[i].Id = id
    · simp [e0, e1, e5, hq]
      exact fin_plain ⟨by rw [← hall, findS_hit h hq], rfl⟩
    · simp [e0, e1, e5, hq]
      exact hN _ _ _ _ h (List.nil_sublist _) ⟨by simp [upd, e0], by simp [upd, e1], by simp [upd]; exact step64 hn h, by rw [← hall, findS_miss h hq], rfl⟩
  · refine fin_plain ⟨?_, rfl⟩
    have h1 : i = s.list.length := by omega
    rw [h1, List.drop_length] at hall
    rw [← hall]; rfl

theorem pred_fn (x : TSession) (id : List UInt8) : Fnc Tryz.prog 114 [.agg x.enc, .cpt [.str id] 0] (.bool (decide (x.Id = id))) := by
  refine fn_of c114 (by simp [F114]) fun c => ?_
  unfold F114
  simp
  exact fin_plain ⟨rfl, rfl⟩

theorem index_con {s : SL TSession} {id : List UInt8} (hn : s.list.length ≤ mx) (t c : Nat) :
    Con Tryz.prog 113 [s.av 4 TSession.enc, .fn 114 [.ptr 0 t 1 0 0]] [⟨false, t, 1, [[.str id]]⟩] c fun r H' _ => r = .int .i64 (findS id s.list 0) ∧ H' = [⟨false, t, 1, [[.str id]]⟩] := by
  refine con_of c113 (by simp [F113]) ?_
  unfold F113
  simp
  refine loop_drop s.list.length (fun i e H c' => e 0 = s.av 4 TSession.enc ∧ e 1 = .fn 114 [.ptr 0 t 1 0 0] ∧ e 7 = .int .i64 s.list.length ∧ e 8 = .int .i64 i ∧ findS id (s.list.drop i) i = findS id s.list 0 ∧ H = [⟨false, t, 1, [[.str id]]⟩]) ⟨rfl, rfl, rfl, rfl, by simp, rfl⟩ ?_
  intro i e H c hi ⟨e0, e1, e7, e8, hall, hH⟩ N hN
  subst hH
  simp [e0, e1, e7, e8]
  refine ⟨fun h => ⟨s.list[i], List.getElem?_eq_getElem h, ?_⟩, fun h => ?_⟩
  · simp [e0, e1, e7, e8]
    refine ⟨by kernel_rfl, call_fn (pred_fn s.list[i] id) (.cons (.refl _) (.cons (view_ptr (rows := [[.str id]]) (by simp) rfl (by simp)) .nil)) .bool fun _ _ => ?_⟩
    by_cases hq : s.list[i].Id = id
    · simp [e0, e1, e7, e8, hq]
      exact fin_all ⟨by rw [← hall, findS_hit h hq], rfl⟩
    · simp [e0, e1, e7, e8, hq]
      exact hN _ _ _ _ h (List.Sublist.refl _) ⟨by simp [upd, e0], by simp [upd, e1], by simp [upd, e7], by simp [upd]; exact step64 hn h, by rw [← hall, findS_miss h hq], rfl⟩
  · refine fin_all ⟨?_, rfl⟩
    have h1 : i = s.list.length := by omega
    rw [h1, List.drop_length] at hall
    rw [← hall]; rfl

theorem impl_find {s : SL TSession} {id : List UInt8} (hn : s.list.length ≤ mx) : Fnc Tryz.prog 97 [s.av 4 TSession.enc, .str id] (.int .i64 (findS id s.list 0)) := by
  refine fn_of c97 (by simp [F97]) fun c => ?_
  unfold F97
  simp
  refine call_con (index_con hn c _) fun r H' c' hc hq _ _ => ?_
  obtain ⟨rfl, rfl⟩ := hq
  refine ⟨.int, ?_, ?_⟩
  · intro o ho
    simp at ho; subst ho
    exact avRows_of fun row hr a ha => by simp at hr; subst hr; simp at ha; subst ha; exact .str
  · simp
    exact fin_plain ⟨rfl, rfl⟩

end A
end Go.Proofs.YtfcimcoanlgldaaGreat

/-
  Letters and digits, of the reference and of the program. No condition.
-/

namespace Go.Proofs.YtfcimcoanlgldaaGreat
namespace A
set_option linter.unusedVariables false
set_option linter.unusedSimpArgs false
set_option maxRecDepth 100000

def isL (b : UInt8) : Bool := inR b.toNat 97 122 || inR b.toNat 65 90 || decide (b.toNat = 95)
def isD (b : UInt8) : Bool := inR b.toNat 48 57
theorem wrap_b (b : UInt8) : IntKind.i64.wrap (b.toNat : Int) = b.toNat := by
  have := b.toNat_lt
  exact wrap64 (by omega) (by omega)
theorem letter_fn (b : UInt8) : Fnc Tryz.prog 121 [.int .u8 b.toNat] (.bool (isL b)) := by
  refine fn_of c121 (by simp [F121]) fun c => ?_
  unfold F121
  simp [wrap_b]
  refine call_fn0 (l1In_fn _ _ _) .bool fun _ _ => ?_
  cases h1 : inR b.toNat 97 122 <;> simp [wrap_b]
  · refine call_fn0 (l1In_fn _ _ _) .bool fun _ _ => ?_
    cases h2 : inR b.toNat 65 90 <;> simp
    · exact fin_plain ⟨by simp [isL, h1, h2]; omega, rfl⟩
    · exact fin_plain ⟨by simp [isL, h1, h2], rfl⟩
  · exact fin_plain ⟨by simp [isL, h1], rfl⟩
theorem digit_fn (b : UInt8) : Fnc Tryz.prog 122 [.int .u8 b.toNat] (.bool (isD b)) := by
  refine fn_of c122 (by simp [F122]) fun c => ?_
  unfold F122
  simp [wrap_b]
  refine call_fn0 (l1In_fn _ _ _) .bool fun _ _ => ?_
  simp
  exact fin_plain ⟨rfl, rfl⟩
def isA (b : UInt8) : Bool := inR b.toNat 65 90 || inR b.toNat 97 122
theorem isLetter_fn (b : UInt8) : Fnc Tryz.prog 123 [.int .u8 b.toNat] (.bool (isA b)) := by
  refine fn_of c123 (by simp [F123]) fun c => ?_
  unfold F123 isA inR
  by_cases h1 : (65 : Int) ≤ b.toNat <;> by_cases h2 : (b.toNat : Int) ≤ 90 <;> by_cases h3 : (97 : Int) ≤ b.toNat <;> simp [h1, h2, h3] <;> exact fin_plain (by simp)
theorem isDigit_fn (b : UInt8) : Fnc Tryz.prog 124 [.int .u8 b.toNat] (.bool (isD b)) := by
  refine fn_of c124 (by simp [F124]) fun c => ?_
  unfold F124 isD inR
  by_cases h1 : (48 : Int) ≤ b.toNat <;> simp [h1] <;> exact fin_plain (by simp)
theorem isL_A (b : UInt8) : isL b = (isA b || decide (b.toNat = 95)) := by
  simp [isL, isA, Bool.or_comm (inR b.toNat 97 122)]
end A
end Go.Proofs.YtfcimcoanlgldaaGreat

/-
  Names, of the reference and of the program. No condition.
-/

namespace Go.Proofs.YtfcimcoanlgldaaGreat
namespace A
set_option linter.unusedVariables false
set_option linter.unusedSimpArgs false
set_option maxRecDepth 100000


/-- The end of the name. -/
def nm : List UInt8 → Nat → Nat
  | [], i => i
  | b :: l, i => if isL b || (decide (0 < i) && isD b) then nm l (i + 1) else i
theorem nm_go {l : List UInt8} {i : Nat} (h : i < l.length) (e : (isL l[i] || (decide (0 < i) && isD l[i])) = true) : nm (l.drop i) i = nm (l.drop (i + 1)) (i + 1) := by
  rw [List.drop_eq_getElem_cons h, nm, if_pos e]
theorem nm_stop {l : List UInt8} {i : Nat} (h : i < l.length) (e : (isL l[i] || (decide (0 < i) && isD l[i])) = false) : nm (l.drop i) i = i := by
  rw [List.drop_eq_getElem_cons h, nm, if_neg (by simp only [e]; simp)]
theorem nm_end {l : List UInt8} {i : Nat} (h : l.length ≤ i) : nm (l.drop i) i = i := by
  rw [List.drop_eq_nil_of_le h]; rfl
theorem specName_fn {l : List UInt8} (hl : l.length ≤ mx) : Fnc Tryz.prog 111 [.str l, .int .i64 0] (.int .i64 (nm l 0)) := by
  refine fn_of c111 (by simp [F111]) fun c => ?_
  unfold F111
  simp
  refine loop_drop l.length (fun i e H c' => e 0 = .str l ∧ e 1 = .int .i64 0 ∧ e 5 = .int .i64 i ∧ nm (l.drop i) i = nm l 0 ∧ H = []) ⟨rfl, rfl, rfl, by simp, rfl⟩ ?_
  intro i e H c hi ⟨e0, e1, e5, hd, hH⟩ N hN
  subst hH
  rcases Nat.lt_or_ge i l.length with h | h
  · have hb : l[i]? = some l[i] := List.getElem?_eq_getElem h
    have next : (isL l[i] || (decide (0 < i) && isD l[i])) = true → nm (l.drop (i + 1)) (i + 1) = nm l 0 := fun e => by rw [← hd, nm_go h e]
    have stop : (isL l[i] || (decide (0 < i) && isD l[i])) = false → i = nm l 0 := fun e => by rw [← hd, nm_stop h e]
    generalize l[i] = b at hb next stop
    simp [e0, e1, e5, h]
    refine ⟨_, hb, ?_⟩
    simp [e0, e1, e5, h]
    refine call_fn0 (letter_fn b) .bool fun _ _ => ?_
    cases h1 : isL b
    · by_cases h2 : 0 < i
      · simp [e0, e1, e5, h, h2]
        refine ⟨_, hb, ?_⟩
        simp [e0, e1, e5, h, h2]
        refine call_fn0 (digit_fn b) .bool fun _ _ => ?_
        cases h3 : isD b
        · simp [e0, e1, e5]
          exact fin_plain ⟨by rw [stop (by simp [h1, h3])], rfl⟩
        · simp [e0, e1, e5]
          exact hN _ _ _ _ h (List.Sublist.refl _) ⟨by simp [upd, e0], by simp [upd, e1], by simp [upd]; exact step64 hl h, next (by simp [h1, h2, h3]), rfl⟩
      · simp [e0, e1, e5, h, h2]
        exact fin_plain ⟨by rw [stop (by simp [h1, h2])], rfl⟩
    · simp [e0, e1, e5]
      exact hN _ _ _ _ h (List.Sublist.refl _) ⟨by simp [upd, e0], by simp [upd, e1], by simp [upd]; exact step64 hl h, next (by simp [h1]), rfl⟩
  · have : ¬ (i < l.length) := by omega
    simp [e0, e1, e5, this]
    exact fin_plain ⟨by rw [← hd, nm_end h], rfl⟩
theorem implName_fn {l : List UInt8} (hl : l.length ≤ mx) : Fnc Tryz.prog 112 [.str l] (.int .i64 (nm l 0)) := by
  refine fn_of c112 (by simp [F112]) fun c => ?_
  unfold F112
  simp
  refine loop_drop l.length (fun i e H c' => e 0 = .str l ∧ e 3 = .int .i64 i ∧ nm (l.drop i) i = nm l 0 ∧ H = []) ⟨rfl, rfl, by simp, rfl⟩ ?_
  intro i e H c hi ⟨e0, e3, hd, hH⟩ N hN
  subst hH
  rcases Nat.lt_or_ge i l.length with h | h
  · have hb : l[i]? = some l[i] := List.getElem?_eq_getElem h
    have next : (isL l[i] || (decide (0 < i) && isD l[i])) = true → nm (l.drop (i + 1)) (i + 1) = nm l 0 := fun e => by rw [← hd, nm_go h e]
    have stop : (isL l[i] || (decide (0 < i) && isD l[i])) = false → i = nm l 0 := fun e => by rw [← hd, nm_stop h e]
    generalize l[i] = b at hb next stop
    rw [isL_A] at next stop
    simp [e0, e3, h]
    refine ⟨_, hb, ?_⟩
    simp [e0, e3, h]
    refine call_fn0 (isLetter_fn b) .bool fun _ _ => ?_
    cases h1 : isA b
    · simp [e0, e3, h]
      refine ⟨_, hb, ?_⟩
      by_cases h4 : (b.toNat : Int) = 95
      · have h4' : b.toNat = 95 := by omega
        simp [e0, e3, h4]
        exact hN _ _ _ _ h (List.Sublist.refl _) ⟨by simp [upd, e0], by simp [upd]; exact step64 hl h, next (by simp [h4']), rfl⟩
      have h4' : ¬ b.toNat = 95 := by omega
      by_cases h2 : 0 < i
      · simp [e0, e3, h, h2, h4]
        refine ⟨_, hb, ?_⟩
        simp [e0, e3, h, h2, h4]
        refine call_fn0 (isDigit_fn b) .bool fun _ _ => ?_
        cases h3 : isD b
        · simp [e0, e3, h2, h4]
          exact fin_plain ⟨by rw [stop (by simp [h1, h3, h4'])], rfl⟩
        · simp [e0, e3, h2, h4]
          exact hN _ _ _ _ h (List.Sublist.refl _) ⟨by simp [upd, e0], by simp [upd]; exact step64 hl h, next (by simp [h2, h3]), rfl⟩
      · simp [e0, e3, h, h2, h4]
        exact fin_plain ⟨by rw [stop (by simp [h1, h2, h4'])], rfl⟩
    · simp [e0, e3]
      exact hN _ _ _ _ h (List.Sublist.refl _) ⟨by simp [upd, e0], by simp [upd]; exact step64 hl h, next (by simp [h1]), rfl⟩
  · have : ¬ (i < l.length) := by omega
    simp [e0, e3, this]
    exact fin_plain ⟨by rw [← hd, nm_end h], rfl⟩

def isName (l : List UInt8) : Bool := decide (1 ≤ l.length) && decide (l.length ≤ 20) && decide (nm l 0 = l.length)
theorem spec_isName {l : List UInt8} (hl : l.length ≤ mx) : Fnc Tryz.prog 93 [.str l] (.bool (isName l)) := by
  refine fn_of c93 (by simp [F93]) fun c => ?_
  unfold F93
  by_cases h1 : (1 : Int) ≤ l.length
  · by_cases h2 : (l.length : Int) ≤ 20
    · simp [h1, h2]
      refine call_fn0 (specName_fn hl) .int fun _ _ => ?_
      by_cases h3 : nm l 0 = l.length
      · simp [h1, h2, h3]
        exact fin_plain ⟨by simp [isName, h3]; omega, rfl⟩
      · have h3' : ¬ (nm l 0 : Int) = l.length := by omega
        simp [h1, h2, h3']
        exact fin_plain ⟨by simp [isName, h3], rfl⟩
    · simp [h1, h2]
      exact fin_plain ⟨by simp [isName]; intros; omega, rfl⟩
  · simp [h1]
    exact fin_plain ⟨by simp [isName]; intros; omega, rfl⟩
theorem impl_isName {l : List UInt8} (hl : l.length ≤ mx) : Fnc Tryz.prog 95 [.str l] (.bool (isName l)) := by
  refine fn_of c95 (by simp [F95]) fun c => ?_
  unfold F95
  by_cases h2 : (l.length : Int) ≤ 20
  · simp [h2]
    refine call_fn0 (implName_fn hl) .int fun _ _ => ?_
    by_cases h3 : nm l 0 = l.length
    · simp [h2, h3]
      refine fin_plain ⟨?_, rfl⟩
      cases l with
      | nil => simp [isName]
      | cons b l => simp [isName, h3]; simp at h2; omega
    · have h3' : ¬ (nm l 0 : Int) = l.length := by omega
      simp [h2, h3']
      exact fin_plain ⟨by simp [isName, h3], rfl⟩
  · simp [h2]
    exact fin_plain ⟨by simp [isName]; intros; omega, rfl⟩
end A
end Go.Proofs.YtfcimcoanlgldaaGreat

/-
  AreSessions of the reference and of the program are the same plain function of the list, and the law answers true. No condition.
-/



namespace Go.Proofs.YtfcimcoanlgldaaGreat
namespace A
set_option linter.unusedVariables false
set_option linter.unusedSimpArgs false
set_option maxRecDepth 100000

/-- One session by itself. -/
def sessOk (x : TSession) : Bool := isName x.Id && decide (x.Data.length ≤ 2000) && inR x.Holder 0 1000000000000 && inR x.At 0 1000000000000
/-- No name stands twice. -/
def once : List TSession → Bool
  | [] => true
  | x :: l => !(l.map (·.Id)).contains x.Id && once l
def areSessions (l : List TSession) : Bool := l.all sessOk && once l.reverse && decide (l.length ≤ 8)

theorem findS_miss_iff (id : List UInt8) : ∀ (l : List TSession) (i : Nat), (l.map (·.Id)).contains id = false → findS id l i = -1
  | [], i, _ => rfl
  | x :: l, i, h => by
    simp only [List.map_cons, List.contains_cons, Bool.or_eq_false_iff] at h
    unfold findS
    rw [if_neg (by intro e; simp [e] at h)]
    exact findS_miss_iff id l (i + 1) h.2
theorem findS_app {id : List UInt8} (m : List TSession) : ∀ (l : List TSession) (i : Nat), (l.map (·.Id)).contains id = false → findS id (l ++ m) i = findS id m (i + l.length)
  | [], i, _ => by simp
  | x :: l, i, h => by
    simp only [List.map_cons, List.contains_cons, Bool.or_eq_false_iff] at h
    rw [List.cons_append, findS, if_neg (by intro e; simp [e] at h), findS_app m l (i + 1) h.2]
    simp only [List.length_cons]; congr 1; omega
theorem findS_hit_lt {id : List UInt8} (m : List TSession) : ∀ (l : List TSession) (i : Nat), (l.map (·.Id)).contains id = true → findS id (l ++ m) i < i + l.length
  | [], i, h => by simp at h
  | x :: l, i, h => by
    rw [List.cons_append, findS]
    by_cases e : x.Id = id
    · rw [if_pos e]; simp; omega
    · rw [if_neg e]
      have h' : (l.map (·.Id)).contains id = true := by
        simp only [List.map_cons, List.contains_cons, Bool.or_eq_true] at h
        rcases h with h | h
        · exact absurd (by simpa using h : id = x.Id).symm e
        · exact h
      have := findS_hit_lt m l (i + 1) h'
      simp; omega
/-- The first of its name is it itself just if none before has it. -/
theorem find_self {l : List TSession} {i : Nat} (h : i < l.length) : (findS l[i].Id l 0 = i) ↔ ((l.take i).map (·.Id)).contains l[i].Id = false := by
  have e : l = l.take i ++ l.drop i := (List.take_append_drop i l).symm
  have hl : (l.take i).length = i := by simp; omega
  constructor
  · intro hf
    cases hc : ((l.take i).map (·.Id)).contains l[i].Id with
    | false => rfl
    | true =>
      have := findS_hit_lt (l.drop i) (l.take i) 0 hc
      rw [← e, hf, hl] at this
      omega
  · intro hc
    have := findS_app (l.drop i) (l.take i) 0 hc
    rw [← e, hl] at this
    rw [this, List.drop_eq_getElem_cons h, findS, if_pos rfl]
    simp
theorem once_step {l : List TSession} {i : Nat} (h : i < l.length) : once (l.take (i + 1)).reverse = (!((l.take i).map (·.Id)).contains l[i].Id && once (l.take i).reverse) := by
  rw [List.take_succ_eq_append_getElem h, List.reverse_append]
  simp only [List.reverse_cons, List.reverse_nil, List.nil_append, List.singleton_append, once, List.map_reverse]
  congr 2
  rw [Bool.eq_iff_iff]
  simp
/-- Up to an index. -/
def okTo (l : List TSession) (i : Nat) : Bool := (l.take i).all sessOk && once (l.take i).reverse
theorem okTo_step {l : List TSession} {i : Nat} (h : i < l.length) : okTo l (i + 1) = (okTo l i && sessOk l[i] && !((l.take i).map (·.Id)).contains l[i].Id) := by
  unfold okTo
  rw [once_step h, List.take_succ_eq_append_getElem h, List.all_append]
  simp only [List.all_cons, List.all_nil, Bool.and_true]
  cases (l.take i).all sessOk <;> cases sessOk l[i] <;> cases once (l.take i).reverse <;> simp
theorem okTo_mono {l : List TSession} {i : Nat} (h : okTo l i = false) : areSessions l = false := by
  have key : ∀ j, i ≤ j → j ≤ l.length → okTo l j = false := by
    intro j hj
    induction hj with
    | refl => exact fun _ => h
    | step hj ih => intro hl; rw [okTo_step (by omega), ih (by omega)]; simp
  rcases Nat.lt_or_ge i l.length with h1 | h1
  · have := key l.length (Nat.le_of_lt h1) (Nat.le_refl _)
    unfold okTo at this
    rw [List.take_length] at this
    unfold areSessions
    rw [this]; rfl
  · unfold okTo at h
    rw [List.take_of_length_le h1] at h
    unfold areSessions
    rw [h]; rfl
theorem okTo_all {l : List TSession} (h : okTo l l.length = true) : areSessions l = decide (l.length ≤ 8) := by
  unfold okTo at h
  rw [List.take_length] at h
  unfold areSessions
  rw [h]; rfl

theorem spec_areS {s : SL TSession} (hs : okSessionS s) : Fnc Tryz.prog 94 [s.av 4 TSession.enc] (.bool (areSessions s.list)) := by
  have hn := hs.1
  refine fn_of c94 (by simp [F94]) fun c => ?_
  unfold F94
  simp
  refine loop_drop s.list.length (fun i e H c' => e 0 = s.av 4 TSession.enc ∧ e 3 = .int .i64 i ∧ okTo s.list i = true ∧ H = []) ⟨rfl, rfl, rfl, rfl⟩ ?_
  intro i e H c hi ⟨e0, e3, hall, hH⟩ N hN
  subst hH
  simp [e0, e3]
  refine ⟨fun h => ⟨s.list[i], List.getElem?_eq_getElem h, ?_⟩, fun h => ?_⟩
  · have hst := okTo_step h
    have hself := find_self h
    have hok := hs.2 _ (List.getElem_mem h)
    rw [hall] at hst
    generalize hx : s.list[i] = x at hst hself hok
    have bad : (sessOk x && !((s.list.take i).map (·.Id)).contains x.Id) = false → areSessions s.list = false := fun hb => okTo_mono (i := i + 1) (by rw [hst]; simpa using hb)
    simp [e0, e3]
    refine call_fn0 (spec_isName hok.1) .bool fun _ _ => ?_
    cases h1 : isName x.Id
    · simp [e0, e3]; exact fin_plain ⟨by rw [bad (by simp [sessOk, h1])], rfl⟩
    simp [e0, e3]
    refine call_fn0 (spec_find hn) .int fun _ _ => ?_
    by_cases h2 : findS x.Id s.list 0 = i
    rotate_left
    · simp [e0, e3, h2]
      have hc : ((s.list.take i).map (·.Id)).contains x.Id = true := by
        cases hc : ((s.list.take i).map (·.Id)).contains x.Id with
        | true => rfl
        | false => exact absurd (hself.2 hc) h2
      exact fin_plain ⟨by rw [bad (by rw [hc]; simp)], rfl⟩
    have hc := hself.1 h2
    simp [e0, e3, h2]
    by_cases h3 : (2000 : Int) < x.Data.length
    · simp [e0, e3, h3]; exact fin_plain ⟨by rw [bad (by simp [sessOk]; intros; omega)], rfl⟩
    simp [e0, e3, h3]
    refine call_fn0 (l1In_fn _ _ _) .bool fun _ _ => ?_
    cases h4 : inR x.Holder 0 1000000000000
    · simp [e0, e3, h3]; exact fin_plain ⟨by rw [bad (by simp [sessOk, h4])], rfl⟩
    simp [e0, e3, h3]
    refine call_fn0 (l1In_fn _ _ _) .bool fun _ _ => ?_
    cases h5 : inR x.At 0 1000000000000
    · simp [e0, e3, h3]; exact fin_plain ⟨by rw [bad (by simp [sessOk, h5])], rfl⟩
    simp [e0, e3, h3]
    exact hN _ _ _ _ h (List.nil_sublist _) ⟨by simp [upd, e0], by simp [upd]; exact step64 hn h, by rw [hst]; simp only [sessOk, h1, h4, h5, hc]; simp; omega, rfl⟩
  · have : i = s.list.length := by omega
    subst this
    refine fin_plain ⟨?_, rfl⟩
    rw [okTo_all hall]; simp; omega
def seenRow (x : TSession) : List AV := [.str x.Id, .bool true]
theorem mfind_no {id : List UInt8} : ∀ (l : List TSession) (k : Nat), (l.map (·.Id)).contains id = false → mfind (.str id) (l.map seenRow) k = some none
  | [], k, _ => rfl
  | x :: l, k, h => by
    simp only [List.map_cons, List.contains_cons, Bool.or_eq_false_iff] at h
    have e : keyEq (.str id) (.str x.Id) = some false := by simp only [keyEq]; rw [h.1]
    simp only [List.map_cons, seenRow, mfind, e]
    exact mfind_no l (k + 1) h.2
theorem mfind_yes {id : List UInt8} : ∀ (l : List TSession) (k : Nat), (l.map (·.Id)).contains id = true → ∃ j, mfind (.str id) (l.map seenRow) k = some (some (j, .bool true))
  | [], k, h => by simp at h
  | x :: l, k, h => by
    cases e : (id == x.Id) with
    | true =>
      have e' : keyEq (.str id) (.str x.Id) = some true := by simp only [keyEq]; rw [e]
      exact ⟨k, by simp only [List.map_cons, seenRow, mfind, e']⟩
    | false =>
      have e' : keyEq (.str id) (.str x.Id) = some false := by simp only [keyEq]; rw [e]
      simp only [List.map_cons, List.contains_cons, e, Bool.false_or] at h
      obtain ⟨j, hj⟩ := mfind_yes l (k + 1) h
      exact ⟨j, by simp only [List.map_cons, seenRow, mfind, e']; exact hj⟩
theorem lookup_no {H : List AObj} {d : TypeDesc} {z k : AV} {i tag : Nat} {rows : List (List AV)} {w : Nat} {K : AV → Prop} (hd : keyFits d k = true) (ho : H[i]? = some ⟨true, tag, w, rows⟩) (hm : mfind k rows 0 = some none) (h : K z) : lookupW d z false (.mref i tag) k H K :=
  ⟨hd, _, ho, rfl, rfl, by rw [hm]; exact h⟩
theorem lookup_yes {H : List AObj} {d : TypeDesc} {z k v : AV} {i tag j : Nat} {rows : List (List AV)} {w : Nat} {K : AV → Prop} (hd : keyFits d k = true) (ho : H[i]? = some ⟨true, tag, w, rows⟩) (hm : mfind k rows 0 = some (some (j, v))) (h : K v) : lookupW d z false (.mref i tag) k H K :=
  ⟨hd, _, ho, rfl, rfl, by rw [hm]; exact h⟩
theorem mupd_no {H : List AObj} {c : Nat} {d : TypeDesc} {k v : AV} {i tag : Nat} {rows : List (List AV)} {w : Nat} {K : AV → List AObj → Nat → Prop} (hd : keyFits d k = true) (ho : H[i]? = some ⟨true, tag, w, rows⟩) (hm : mfind k rows 0 = some none) (hl : rows.length < mx) (h : K .und (H.set i ⟨true, tag, w, rows ++ [[k, v]]⟩) c) : mupdW d (.mref i tag) k v H c K :=
  ⟨hd, _, ho, rfl, rfl, by rw [hm]; exact ⟨hl, h⟩⟩

def seenRows (l : List TSession) (i : Nat) : List (List AV) := (l.take i).map seenRow
theorem seenRows_step {l : List TSession} {i : Nat} (h : i < l.length) : seenRows l (i + 1) = seenRows l i ++ [seenRow l[i]] := by
  unfold seenRows; rw [List.take_succ_eq_append_getElem h, List.map_append]; rfl
theorem seenRows_len {l : List TSession} {i : Nat} : (seenRows l i).length ≤ i := by unfold seenRows; simp; omega
theorem impl_areS {s : SL TSession} (hs : okSessionS s) : Fnc Tryz.prog 96 [s.av 4 TSession.enc] (.bool (areSessions s.list)) := by
  have hn := hs.1
  refine fn_of c96 (by simp [F96]) fun c => ?_
  unfold F96
  simp
  refine loop_drop s.list.length (fun i e H c' => e 0 = s.av 4 TSession.enc ∧ e 3 = .mref 0 c ∧ e 7 = s.av 4 TSession.enc ∧ e 8 = .int .i64 s.list.length ∧ e 9 = .int .i64 i ∧ okTo s.list i = true ∧ H = [⟨true, c, 0, seenRows s.list i⟩]) ⟨rfl, rfl, rfl, rfl, rfl, rfl, rfl⟩ ?_
  intro i e H c' hi ⟨e0, e3, e7, e8, e9, hall, hH⟩ N hN
  subst hH
  simp [e0, e3, e7, e8, e9]
  refine ⟨fun h => ⟨s.list[i], List.getElem?_eq_getElem h, ?_⟩, fun h => ?_⟩
  · have hst := okTo_step h
    have hok := hs.2 _ (List.getElem_mem h)
    rw [hall] at hst
    have htk := seenRows_step h
    generalize hx : s.list[i] = x at hst hok htk
    have bad : (sessOk x && !((s.list.take i).map (·.Id)).contains x.Id) = false → areSessions s.list = false := fun hb => okTo_mono (i := i + 1) (by rw [hst]; simpa using hb)
    simp [e0, e3, e7, e8, e9]
    cases hc : ((s.list.take i).map (·.Id)).contains x.Id
    rotate_left
    · obtain ⟨j, hj⟩ : ∃ j, mfind (.str x.Id) (seenRows s.list i) 0 = some (some (j, .bool true)) := mfind_yes _ 0 hc
      refine lookup_yes rfl rfl hj ?_
      simp [e0, e3, e7, e8, e9]
      exact fin_plain ⟨by rw [bad (by rw [hc]; simp)], rfl⟩
    have hm : mfind (.str x.Id) (seenRows s.list i) 0 = some none := mfind_no _ 0 hc
    refine lookup_no rfl rfl hm ?_
    simp [e0, e3, e7, e8, e9]
    refine call_fn0 (impl_isName hok.1) .bool fun _ _ => ?_
    cases h1 : isName x.Id
    · simp [e0, e3, e7, e8, e9]; exact fin_plain ⟨by rw [bad (by simp [sessOk, h1])], rfl⟩
    simp [e0, e3, e7, e8, e9]
    by_cases h3 : (2000 : Int) < x.Data.length
    · simp [e0, e3, e7, e8, e9, h3]; exact fin_plain ⟨by rw [bad (by simp [sessOk]; intros; omega)], rfl⟩
    simp [e0, e3, e7, e8, e9, h3]
    refine call_fn0 (inRange_fn _ _ _) .bool fun _ _ => ?_
    cases h4 : inR x.Holder 0 1000000000000
    · simp [e0, e3, e7, e8, e9, h3]; exact fin_plain ⟨by rw [bad (by simp [sessOk, h4])], rfl⟩
    simp [e0, e3, e7, e8, e9, h3]
    refine call_fn0 (inRange_fn _ _ _) .bool fun _ _ => ?_
    cases h5 : inR x.At 0 1000000000000
    · simp [e0, e3, e7, e8, e9, h3]; exact fin_plain ⟨by rw [bad (by simp [sessOk, h5])], rfl⟩
    simp [e0, e3, e7, e8, e9, h3]
    refine mupd_no rfl rfl hm (by have := seenRows_len (l := s.list) (i := i); omega) ?_
    simp [e0, e3, e7, e8, e9, h3]
    exact hN _ _ _ _ h (sub_one _ _) ⟨by simp [upd, e0], by simp [upd, e3], by simp [upd, e7], by simp [upd, e8], by simp [upd]; exact step64 hn h, by rw [hst]; simp only [sessOk, h1, h4, h5, hc]; simp; omega, by rw [htk]; rfl⟩
  · have : i = s.list.length := by omega
    subst this
    refine fin_plain ⟨?_, rfl⟩
    rw [okTo_all hall]; simp; omega

end A
end Go.Proofs.YtfcimcoanlgldaaGreat

/-
  The copy of a list of sessions, under the name that SaveSession's and OpenSession's texts use. No condition.
-/


namespace Go.Proofs.YtfcimcoanlgldaaGreat
namespace A
theorem cloneSO {s : SL TSession} (hn : s.list.length ≤ 1048576) (c : Nat) : Con Tryz.prog 73 [s.av 4 TSession.enc] [] c fun r O _ => ∃ x : SL TSession, r = x.ref 4 ∧ O = x.wood 4 TSession.enc noInn ∧ x.list = s.list := cloneSO' hn c
end A
end Go.Proofs.YtfcimcoanlgldaaGreat

/-
  SaveSession of the reference and of the program are the same plain function. No condition.
-/


namespace Go.Proofs.YtfcimcoanlgldaaGreat
namespace A
set_option linter.unusedVariables false
set_option linter.unusedSimpArgs false
set_option maxRecDepth 100000

theorem findS_range (id : List UInt8) : ∀ (l : List TSession) (i : Nat), findS id l i = -1 ∨ (i ≤ findS id l i ∧ findS id l i < i + l.length)
  | [], i => .inl rfl
  | x :: l, i => by
    unfold findS
    split
    · right; simp; omega
    · rcases findS_range id l (i + 1) with h | h
      · exact .inl h
      · right; simp; omega
theorem findS_nat {id : List UInt8} {l : List TSession} (h : 0 ≤ findS id l 0) : ∃ k : Nat, findS id l 0 = k ∧ k < l.length := by
  rcases findS_range id l 0 with h1 | h1
  · omega
  · exact ⟨(findS id l 0).toNat, by omega, by omega⟩

/-- Whether it is saved. -/
def savesS (id : List UInt8) (who : Int) (data : List UInt8) (now : Int) (l : List TSession) : Bool :=
  match findS id l 0 with
  | .ofNat k => (match l[k]? with | some x => decide (1 ≤ who) && decide (x.Holder = who) && decide (data.length ≤ 2000) && inR now 0 1000000000000 | none => false)
  | _ => false
def saveS (id : List UInt8) (who : Int) (data : List UInt8) (now : Int) (l : List TSession) : List TSession := if savesS id who data now l then l.set (findS id l 0).toNat ⟨id, data, 0, now⟩ else l

theorem savesS_at {id : List UInt8} {who : Int} {data : List UInt8} {now : Int} {l : List TSession} {k : Nat} (hk : findS id l 0 = k) (h : k < l.length) :
    savesS id who data now l = (decide (1 ≤ who) && decide (l[k].Holder = who) && decide (data.length ≤ 2000) && inR now 0 1000000000000) := by
  unfold savesS; rw [hk]; simp [h]
theorem savesS_no {id : List UInt8} {who : Int} {data : List UInt8} {now : Int} {l : List TSession} (h : findS id l 0 < 0) : savesS id who data now l = false := by
  unfold savesS
  have : findS id l 0 = -1 := by rcases findS_range id l 0 with h1 | h1 <;> omega
  rw [this]; rfl

theorem len_save {id data : List UInt8} {who now : Int} (l : List TSession) : (saveS id who data now l).length = l.length := by
  unfold saveS; split <;> simp
theorem szL_set {α : Type} (sz : α → Nat) (x : α) : ∀ (l : List α) (i : Nat), szL sz (l.set i x) ≤ szL sz l + sz x
  | [], i => by simp [szL]
  | y :: l, 0 => by simp [szL]; omega
  | y :: l, i + 1 => by
    have := szL_set sz x l i
    simp [szL] at this ⊢; omega
theorem findS_id {id : List UInt8} : ∀ {l : List TSession} {i k : Nat} (h : findS id l i = (i + k : Nat)) (hk : k < l.length), l[k].Id = id
  | [], i, k, h, hk => by simp at hk
  | x :: l, i, k, h, hk => by
    unfold findS at h
    split at h
    · have : k = 0 := by omega
      subst this
      simpa
    · cases k with
      | zero => rcases findS_range id l (i + 1) with h1 | h1 <;> omega
      | succ k => exact findS_id (l := l) (i := i + 1) (k := k) (by rw [h]; omega) (by simpa using hk)
theorem size_save {id data : List UInt8} {who now : Int} (l : List TSession) : (saveS id who data now l).length + szL TSession.sz (saveS id who data now l) ≤ l.length + (2 * szL TSession.sz l + 2000) := by
  rw [len_save]
  unfold saveS
  split
  · rename_i h
    have h0 : 0 ≤ findS id l 0 := by
      rcases Int.lt_or_le (findS id l 0) 0 with h1 | h1
      · rw [savesS_no h1] at h; cases h
      · exact h1
    obtain ⟨k, hk, hkl⟩ := findS_nat h0
    rw [savesS_at hk hkl] at h
    simp at h
    have hid := findS_id (l := l) (i := 0) (k := k) (by rw [hk]; simp) hkl
    have h1 := szL_set TSession.sz ⟨id, data, 0, now⟩ l (findS id l 0).toNat
    have h2 := szL_mem (sz := TSession.sz) (List.getElem_mem hkl)
    have h3 : TSession.sz l[k] = id.length + (l[k].Data).length := by rw [← hid]; rfl
    have h4 : TSession.sz ⟨id, data, 0, now⟩ = id.length + data.length := rfl
    omega
  · omega
end A
end Go.Proofs.YtfcimcoanlgldaaGreat

/-
  OpenSession of the reference and of the program are the same plain function. No condition.
-/


namespace Go.Proofs.YtfcimcoanlgldaaGreat
namespace A
set_option linter.unusedVariables false
set_option linter.unusedSimpArgs false
set_option maxRecDepth 100000

/-- What opening answers: the list, the data, the code. -/
def openS (id : List UInt8) (who now : Int) (l : List TSession) : List TSession × List UInt8 × Int :=
  if isName id && areSessions l && inR who 1 1000000000000 && inR now 0 1000000000000 then
    match findS id l 0 with
    | .ofNat k => (match l[k]? with
      | some x => if x.Holder = 0 then (l.set k { x with Holder := who }, x.Data, 0) else (l, [], 2)
      | none => (l, [], 1))
    | _ => if 8 ≤ l.length then (l, [], 3) else (l ++ [⟨id, [], who, now⟩], [], 0)
  else (l, [], 1)

def OpenQ (id : List UInt8) (who now : Int) (l : List TSession) (x : SL TSession) (r : List AV) : Prop := x.list = (openS id who now l).1 ∧ r = [.str (openS id who now l).2.1, .int .i64 (openS id who now l).2.2]

theorem openS_bad {id : List UInt8} {who now : Int} {l : List TSession} (h : (isName id && areSessions l && inR who 1 1000000000000 && inR now 0 1000000000000) = false) : openS id who now l = (l, [], 1) := by
  unfold openS; rw [h]; rfl
theorem openS_at {id : List UInt8} {who now : Int} {l : List TSession} {k : Nat} (h : (isName id && areSessions l && inR who 1 1000000000000 && inR now 0 1000000000000) = true) (hk : findS id l 0 = k) (hl : k < l.length) :
    openS id who now l = if l[k].Holder = 0 then (l.set k { l[k] with Holder := who }, l[k].Data, 0) else (l, [], 2) := by
  unfold openS; rw [if_pos h, hk]; simp [hl]
theorem openS_no {id : List UInt8} {who now : Int} {l : List TSession} (h : (isName id && areSessions l && inR who 1 1000000000000 && inR now 0 1000000000000) = true) (hk : findS id l 0 < 0) :
    openS id who now l = if 8 ≤ l.length then (l, [], 3) else (l ++ [⟨id, [], who, now⟩], [], 0) := by
  have : findS id l 0 = -1 := by rcases findS_range id l 0 with h1 | h1 <;> omega
  unfold openS; rw [if_pos h, this]; rfl

theorem spec_openO {s : SL TSession} {id : List UInt8} {who now : Int} (hs : okSessionS s) (hid : id.length ≤ mx) (hn : s.list.length ≤ 1048576) (c : Nat) :
    Con Tryz.prog 50 [s.av 4 TSession.enc, .str id, .int .i64 who, .int .i64 now] [] c fun r O _ => ∃ (x : SL TSession) (l : List AV), r = .tup (x.ref 4 :: l) ∧ O = x.wood 4 TSession.enc noInn ∧ OpenQ id who now s.list x l := by
  refine con_of c50 (by simp [F50]) ?_
  unfold F50
  simp
  refine ⟨by omega, by unfold mx; omega, ?_⟩
  refine call_fn0 (spec_find hs.1) .int fun _ _ => ?_
  simp
  refine call_fn0 (spec_isName hid) .bool fun _ _ => ?_
  have fin : ∀ c' (cd : Int) (dt : List UInt8), (s.list, dt, cd) = openS id who now s.list → finW (fun r O _ => ∃ (x : SL TSession) (l : List AV), r = .tup (x.ref 4 :: l) ∧ O = x.wood 4 TSession.enc noInn ∧ OpenQ id who now s.list x l)
      (.tup [.ref 0 (c + 1) 4 s.list.length, .str dt, .int .i64 cd]) [⟨false, c + 1, 4, s.list.map TSession.enc⟩] c' := fun c' cd dt hb => fin_all ⟨.mk (c + 1) s.list, [.str dt, .int .i64 cd], rfl, by simp [flat_wood], by unfold OpenQ; rw [← hb]; exact ⟨rfl, rfl⟩⟩
  cases h1 : isName id
  · simp
    exact fin _ _ _ (openS_bad (by simp [h1])).symm
  simp
  refine call_fn0 (spec_areS hs) .bool fun _ _ => ?_
  cases h2 : areSessions s.list
  · simp
    exact fin _ _ _ (openS_bad (by simp [h2])).symm
  simp
  refine call_fn0 (l1In_fn _ _ _) .bool fun _ _ => ?_
  cases h3 : inR who 1 1000000000000
  · simp
    exact fin _ _ _ (openS_bad (by simp [h3])).symm
  simp
  refine call_fn0 (l1In_fn _ _ _) .bool fun cc _ => ?_
  cases h4 : inR now 0 1000000000000
  · simp
    exact fin _ _ _ (openS_bad (by simp [h4])).symm
  have hg : (isName id && areSessions s.list && inR who 1 1000000000000 && inR now 0 1000000000000) = true := by simp [h1, h2, h3, h4]
  by_cases h0 : 0 ≤ findS id s.list 0
  · obtain ⟨k, hk, hkl⟩ := findS_nat h0
    have ho := openS_at hg hk hkl
    have hgk : s.list[k]? = some s.list[k] := List.getElem?_eq_getElem hkl
    simp [hk]
    refine ⟨_, hgk, ?_⟩
    by_cases h5 : s.list[k].Holder = 0
    · simp [hk, h5, hkl]
      rw [if_pos h5] at ho
      refine ⟨_, hgk, ?_⟩
      simp [hk, h5, hkl, putA]
      refine ⟨_, hgk, ?_⟩
      simp [hk, h5, hkl]
      exact fin_all ⟨.mk (c + 1) (openS id who now s.list).1, _, by simp [SL.ref, ho]; rfl, by simp [flat_wood, ho, List.map_set, TSession.enc], by unfold OpenQ; rw [ho]; exact ⟨rfl, rfl⟩⟩
    · simp [hk, h5]
      exact fin _ _ _ (by rw [ho, if_neg h5])
  · have h0' : findS id s.list 0 < 0 := by omega
    have ho := openS_no hg h0'
    have h0'' : ¬ (0 ≤ findS id s.list 0) := h0
    by_cases h5 : (8 : Int) ≤ s.list.length
    · simp [h0, h5]
      exact fin _ _ _ (by rw [ho, if_pos (by omega)])
    · have hm1 : s.list.length + 1 ≤ mx := by unfold mx; omega
      have hm2 : (s.list.length + 1) * 48 ≤ 140737488355328 := by omega
      simp [h0, h5, putA, hm1, hm2]
      refine fin_sub (sub_one _ _) (.refl _) ⟨.mk (cc + 1) (openS id who now s.list).1, [.str [], .int .i64 0], by rw [ho, if_neg (by omega)]; simp [SL.ref], by rw [ho, if_neg (by omega)]; simp [flat_wood, TSession.enc], by unfold OpenQ; rw [ho, if_neg (by omega)]; exact ⟨rfl, rfl⟩⟩

theorem impl_openO {s : SL TSession} {id : List UInt8} {who now : Int} (hs : okSessionS s) (hid : id.length ≤ mx) (hn : s.list.length ≤ 1048576) (c : Nat) :
    Con Tryz.prog 51 [s.av 4 TSession.enc, .str id, .int .i64 who, .int .i64 now] [] c fun r O _ => ∃ (x : SL TSession) (l : List AV), r = .tup (x.ref 4 :: l) ∧ O = x.wood 4 TSession.enc noInn ∧ OpenQ id who now s.list x l := by
  refine con_of c51 (by simp [F51]) ?_
  unfold F51
  simp
  refine call_new (cloneSO hn _) (Views.refl _ _) fun r O c1 hc ⟨x, hr, hO, hx⟩ _ _ => ?_
  subst hr
  refine ⟨_, .refl _, free_ref _ _ _, fun o ho => by subst hO; exact flat_free TSession.flat _ _ o ho _, ?_⟩
  simp
  refine call_fn (impl_isName hid) (Views.refl _ _) .bool fun _ _ => ?_
  have fin : ∀ c' (cd : Int) (dt : List UInt8), (s.list, dt, cd) = openS id who now s.list → finW (fun r O _ => ∃ (x : SL TSession) (l : List AV), r = .tup (x.ref 4 :: l) ∧ O = x.wood 4 TSession.enc noInn ∧ OpenQ id who now s.list x l)
      (.tup [x.ref 4, .str dt, .int .i64 cd]) O c' := fun c' cd dt hb => fin_all ⟨x, [.str dt, .int .i64 cd], rfl, hO, by unfold OpenQ; rw [← hb]; exact ⟨hx, rfl⟩⟩
  cases h1 : isName id
  · simp
    exact fin _ _ _ (openS_bad (by simp [h1])).symm
  simp
  refine call_fn (impl_areS hs) (Views.refl _ _) .bool fun _ _ => ?_
  cases h2 : areSessions s.list
  · simp
    exact fin _ _ _ (openS_bad (by simp [h2])).symm
  simp
  refine call_fn (inRange_fn _ _ _) (Views.refl _ _) .bool fun _ _ => ?_
  cases h3 : inR who 1 1000000000000
  · simp
    exact fin _ _ _ (openS_bad (by simp [h3])).symm
  simp
  refine call_fn (inRange_fn _ _ _) (Views.refl _ _) .bool fun _ _ => ?_
  cases h4 : inR now 0 1000000000000
  · simp
    exact fin _ _ _ (openS_bad (by simp [h4])).symm
  simp
  refine call_fn (impl_find hs.1) (Views.refl _ _) .int fun cc _ => ?_
  have hg : (isName id && areSessions s.list && inR who 1 1000000000000 && inR now 0 1000000000000) = true := by simp [h1, h2, h3, h4]
  by_cases h0 : 0 ≤ findS id s.list 0
  · obtain ⟨k, hk, hkl⟩ := findS_nat h0
    have ho := openS_at hg hk hkl
    have hgk : s.list[k]? = some s.list[k] := List.getElem?_eq_getElem hkl
    simp [hk]
    refine ⟨_, hgk, ?_⟩
    by_cases h5 : s.list[k].Holder = 0
    · rw [if_pos h5] at ho
      cases x with
      | nil => rw [← hx] at hkl; simp at hkl
      | mk t l =>
        simp only [SL.list_mk] at hx
        subst hx
        rw [flat_wood] at hO
        subst hO
        simp [hk, h5, hkl, putA, ref_mk]
        refine ⟨_, hgk, ?_⟩
        simp [hk, h5, hkl, TSession.enc]
        exact fin_all ⟨.mk t (openS id who now s.list).1, [.str s.list[k].Data, .int .i64 0], by simp [SL.ref, ho], by simp [flat_wood, ho, List.map_set, TSession.enc], by unfold OpenQ; rw [ho]; exact ⟨rfl, rfl⟩⟩
    · simp [hk, h5]
      exact fin _ _ _ (by rw [ho, if_neg h5])
  · have h0' : findS id s.list 0 < 0 := by omega
    have ho := openS_no hg h0'
    by_cases h5 : (8 : Int) ≤ s.list.length
    · simp [h0, h5]
      exact fin _ _ _ (by rw [ho, if_pos (by omega)])
    · have hm1 : s.list.length + 1 ≤ mx := by unfold mx; omega
      have hm2 : (s.list.length + 1) * 48 ≤ 140737488355328 := by omega
      cases x with
      | nil =>
        have hx' : s.list = [] := hx.symm
        have hO' : O = [] := hO
        subst hO'
        rw [hx'] at h0
        simp [h0, putA, ref_nil, hx']
        have : 1 ≤ mx := by decide
        exact ⟨this, fin_sub (v' := .tup [.ref 0 (cc + 1) 4 1, .str [], .int .i64 0]) (List.sublist_cons_self _ _) (view_tup (.cons .name (Views.refl _ _))) ⟨.mk (cc + 1) [⟨id, [], who, now⟩], [.str [], .int .i64 0], rfl, by simp [flat_wood, TSession.enc], by rw [hx'] at ho; unfold OpenQ; rw [ho, if_neg (by simp)]; exact ⟨rfl, rfl⟩⟩⟩
      | mk t l =>
        simp only [SL.list_mk] at hx
        subst hx
        rw [flat_wood] at hO
        subst hO
        simp [h0, h5, putA, hm1, hm2, ref_mk]
        refine fin_sub (sub_one _ _) (.refl _) ⟨.mk (cc + 1) (openS id who now s.list).1, [.str [], .int .i64 0], by rw [ho, if_neg (by omega)]; simp [SL.ref], by rw [ho, if_neg (by omega)]; simp [flat_wood, TSession.enc], by unfold OpenQ; rw [ho, if_neg (by omega)]; exact ⟨rfl, rfl⟩⟩
theorem openF {id : List UInt8} {who now : Int} {l : List TSession} (x : SL TSession) (r : List AV) (h : OpenQ id who now l x r) : ∀ a, a ∈ r → Free a := fun a ha => by
  rw [h.2] at ha; simp at ha
  rcases ha with rfl | rfl
  · exact free_str _
  · exact free_int _ _
theorem spec_open {s : SL TSession} {id : List UInt8} {who now : Int} (hs : okSessionS s) (hid : id.length ≤ mx) (hn : s.list.length ≤ 1048576) : Tr Tryz.prog 50 [s.av 4 TSession.enc, .str id, .int .i64 who, .int .i64 now] fun _ r => ∃ (x : SL TSession) (l : List AV), r = .tup (x.av 4 TSession.enc :: l) ∧ OpenQ id who now s.list x l :=
  flat_tr2 TSession.flat openF (spec_openO hs hid hn)
theorem impl_open {s : SL TSession} {id : List UInt8} {who now : Int} (hs : okSessionS s) (hid : id.length ≤ mx) (hn : s.list.length ≤ 1048576) : Tr Tryz.prog 51 [s.av 4 TSession.enc, .str id, .int .i64 who, .int .i64 now] fun _ r => ∃ (x : SL TSession) (l : List AV), r = .tup (x.av 4 TSession.enc :: l) ∧ OpenQ id who now s.list x l :=
  flat_tr2 TSession.flat openF (impl_openO hs hid hn)
theorem len_open {id : List UInt8} {who now : Int} (l : List TSession) : (openS id who now l).1.length ≤ l.length + 1 := by
  unfold openS
  split
  · split
    · split
      · split <;> simp
      · simp
    · split <;> simp
  · simp
theorem szL_app {α : Type} (sz : α → Nat) (l m : List α) : szL sz (l ++ m) = szL sz l + szL sz m := by simp [szL]
theorem size_open {id : List UInt8} {who now : Int} (l : List TSession) : (openS id who now l).1.length + szL TSession.sz (openS id who now l).1 ≤ l.length + 1 + (2 * szL TSession.sz l + id.length) := by
  unfold openS
  split
  · split
    · rename_i k hk
      split
      · rename_i x hx
        split
        · have h1 := szL_set TSession.sz { x with Holder := who } l k
          have h2 := szL_mem (sz := TSession.sz) (List.mem_of_getElem? hx)
          have h3 : TSession.sz { x with Holder := who } = TSession.sz x := rfl
          simp; omega
        · simp; omega
      · simp; omega
    · split
      · simp; omega
      · have h3 : TSession.sz ⟨id, [], who, now⟩ = id.length := rfl
        simp only [szL_app]
        simp [szL, h3]; omega
  · simp; omega
end A
end Go.Proofs.YtfcimcoanlgldaaGreat

/-
  slices.Delete at []Job, one element: walked in the model (its own text), and as0 a contract. No condition.
-/








namespace Go.Proofs.YtfcimcoanlgldaaGreat
open Go.RowKit Go.Lib
namespace A
set_option linter.unusedVariables false
set_option linter.unusedSimpArgs false
set_option maxRecDepth 100000

theorem infoJob : (Tryz.prog.info? 57).map (fun i => (i.zero, i.size, i.bytes)) = some (some (.agg #[.int .i64 0, .string ⟨#[]⟩, .slice none 0 0, .slice none 0 0, .string ⟨#[]⟩]), 5, 88) := by kernel_rfl
def zJob : List Value := [.int .i64 0, .string ⟨#[]⟩, .slice none 0 0, .slice none 0 0, .string ⟨#[]⟩]
theorem clear_one {P : Program} (w : World) (t e ty : TypeId) (z : Value) (zs : List Value) (ht : P.underlying t = some (.slice e)) (hv : ∀ w, (zeroValue e).run P w = .ok z w) (hz : z.cells = zs.toArray) (h1 : ∀ u, u ∈ zs → u.oneCell' = true) (b o c : Nat)
    (hc : ∀ j, j < zs.length → (w.cell? ⟨b, o + j, none⟩).isSome = true) (hf : ∀ j, j < zs.length → w.frozen? ⟨b, o + j, none⟩ = false) :
    (Builtin.clear_ #[t] ty #[.slice (some ⟨b, o, none⟩) 1 c]).run P w = .ok (.tuple #[]) (w.setCells b o zs) := by
  have hzc : (Builtin.zeroCells z.cells 1).toList = zs := by
    rw [hz]
    simp [Builtin.zeroCells]
    apply List.ext_getElem
    · simp
    · intro i h1 h2
      simp [Nat.mod_eq_of_lt h2, h2]
  have hst := run_storeCells_cells (P := P) b o zs 0 w (by simpa using hc) (by simpa using hf) h1
  simp only [Nat.add_zero] at hst
  simp [Builtin.clear_, run_underlying ht, hv, hzc, hst]

set_option maxHeartbeats 4000000 in
set_option maxRecDepth 1000000 in
theorem del_calls (w W1 : World) (b n cap i : Nat) (news : List Value) (hi : i < n) (hn : n ≤ cap)
    (hl : news.length = (n - (i + 1)) * 5) (hone : ∀ u, u ∈ news → u.oneCell' = true) (hnews : ∀ t u, news[t]? = some u → w.drew.cell? ⟨b, (i + 1) * 5 + t, none⟩ = some u)
    (hroom : ∀ t, t < n * 5 → (w.drew.cell? ⟨b, t, none⟩).isSome = true ∧ w.drew.frozen? ⟨b, t, none⟩ = false)
    (hW : W1 = w.drew.setCells b (i * 5) news)
    (hroom1 : ∀ t, t < 5 → (W1.cell? ⟨b, (n - 1) * 5 + t, none⟩).isSome = true ∧ W1.frozen? ⟨b, (n - 1) * 5 + t, none⟩ = false) :
    Calls Tryz.prog 52 #[.slice (some ⟨b, 0, none⟩) n cap, .int .i64 i, .int .i64 ((i + 1 : Nat) : Int)] w fun e w' => e = .returned (.slice (some ⟨b, 0, none⟩) (n - 1) cap) ∧ w' = W1.setCells b ((n - 1) * 5) zJob := by
  obtain ⟨i0, hi0, hz0, hz1, hz2⟩ := info_parts infoJob
  obtain ⟨A, hA, hsrc⟩ : ∃ A : Addr, (if cap = i + 1 then some (⟨b, 0, none⟩ : Addr) else some ⟨b, (i + 1) * 5, none⟩) = some A ∧ Hid (∀ t u, news[t]? = some u → w.drew.cell? (A.add t) = some u) := by
    by_cases h : cap = i + 1
    · refine ⟨⟨b, 0, none⟩, by simp [h], fun t u hu => ?_⟩
      have h0 : news.length = 0 := by rw [hl]; omega
      rw [List.length_eq_zero_iff.1 h0] at hu
      simp at hu
    · refine ⟨⟨b, (i + 1) * 5, none⟩, by simp [h], fun t u hu => ?_⟩
      rw [Addr.add_lit]
      exact hnews t u hu
  have s1 : Hid (news.length = (n - (i + 1)) * 5) := hl
  have s2 : Hid (∀ u ∈ news, u.oneCell' = true) := hone
  have s3 : Hid (∀ t, t < news.length → (w.drew.cell? ⟨b, 0 + i * 5 + t, none⟩).isSome = true ∧ w.drew.frozen? ⟨b, 0 + i * 5 + t, none⟩ = false) := by
    intro t ht
    rw [hl] at ht
    have := hroom (i * 5 + t) (by omega)
    rw [Nat.zero_add]
    exact this
  have e1 : i + (n - (i + 1)) = n - 1 := by omega
  have e2 : n - (n - 1) = 1 := by omega
  have hcl : ∀ ty, (Builtin.clear_ #[34] ty #[.slice (some ⟨b, (i + (n - (i + 1))) * 5, none⟩) (n - (i + (n - (i + 1)))) (cap - (i + (n - (i + 1))))]).run Tryz.prog W1 = .ok (.tuple #[]) (W1.setCells b ((n - 1) * 5) zJob) := by
    rw [e1, e2]
    exact fun ty => clear_one W1 34 57 ty _ zJob Tryz.underlying34 Tryz.zeroValue57 rfl (by simp [zJob, Value.oneCell']) b ((n - 1) * 5) _ (fun j hj => (hroom1 j hj).1) (fun j hj => (hroom1 j hj).2)
  have e3 : Hid (i + (n - (i + 1)) = n - 1) := e1
  clear e1 e2
  have hW' : Hid (W1 = w.drew.setCells b (0 + i * 5) news) := by rw [Nat.zero_add]; exact hW
  have hic : i ≤ cap := by omega
  have hjc : i + 1 ≤ cap := by omega
  have hp0 : (0 : Int) ≤ (i : Int) + 1 := by omega
  have hp1 : (i : Int) + 1 ≤ (n : Int) := by omega
  have hp2 : ((i : Int) + 1).toNat = i + 1 := by omega
  have mixed : Tryz.prog.follows Departure.mixedOrders = true := by kernel_rfl
  clear hroom hroom1 hnews hl hone hW
  go_enter Tryz.func52, Tryz.ntmps52
  go_wp2_with fail
  go_region_law_o (refine step_append_room rfl (.tmp 22) (.tmp 25) 34 rfl 57 i0 5 Tryz.underlying34 hi0 hz1 b 0 i cap (by simp [Act.eval, Act.put]) A (n - (i + 1)) (cap - (i + 1)) news (by simp [Act.eval, Act.put]) s1.out hsrc.out s2.out (by omega) s3.out ?_; rw [← hW'.out])
  go_wp2
  go_ret
  exact ⟨by rw [e3.out]; rfl, rfl⟩
theorem setCells_eq : ∀ (vs : List Value) (w : World) (x p : Nat) (c : Array Value) (t : TypeId) (fr : Nat × Nat), w.heap[x]? = some (.cells c t fr) → w.setCells x p vs = wset w x (.cells (putCells c p vs) t fr)
  | [], w, x, p, c, t, fr, hb => by
    show w = wset w x (.cells c t fr)
    have e : w.heap.setIfInBounds x (.cells c t fr) = w.heap := by
      apply Array.ext_getElem?
      intro i
      rw [Array.getElem?_setIfInBounds]
      by_cases h : x = i
      · subst h; rw [if_pos rfl, if_pos (lt_of_get hb), hb]
      · rw [if_neg h]
    unfold wset
    rw [e]
  | v :: r, w, x, p, c, t, fr, hb => by
    have h1 := setCell_eq (p := p) hb v
    show (w.setCell ⟨x, p, none⟩ v).setCells x (p + 1) r = _
    rw [h1, setCells_eq r (wset w x (.cells (c.setIfInBounds p v) t fr)) x (p + 1) (c.setIfInBounds p v) t fr (by rw [wset_get, if_pos rfl, if_pos (lt_of_get hb)]), wset_wset]
    rfl
theorem get_skip {α : Type} (l : List α) (i r : Nat) (hi : i < l.length) {x : α} (h : (l.take i ++ l.drop (i + 1))[r]? = some x) : r < l.length - 1 ∧ l[if r < i then r else r + 1]? = some x := by
  have hl : (l.take i ++ l.drop (i + 1)).length = l.length - 1 := by simp; omega
  have hr := (List.getElem?_eq_some_iff.1 h).1
  rw [hl] at hr
  refine ⟨hr, ?_⟩
  have ht : (l.take i).length = i := by simp; omega
  by_cases h1 : r < i
  · rw [if_pos h1]
    rw [List.getElem?_append_left (by omega), List.getElem?_take, if_pos h1] at h
    exact h
  · rw [if_neg h1]
    rw [List.getElem?_append_right (by omega), ht, List.getElem?_drop] at h
    rw [show r + 1 = i + 1 + (r - i) by omega]
    exact h
def skipRows (rows : List (List AV)) (i : Nat) : List (List AV) := rows.take i ++ rows.drop (i + 1)
theorem delJob_con {t n i c : Nat} {rows : List (List AV)} (hn : rows.length = n) (hi : i < n) :
    Con Tryz.prog 52 [.ref 0 t 5 n, .int .i64 i, .int .i64 ((i + 1 : Nat) : Int)] [⟨false, t, 5, rows⟩] c fun r O _ => r = .ref 0 t 5 (n - 1) ∧ O = [⟨false, t, 5, skipRows rows i⟩] := by
  intro G w vs hc I hs hr
  have r0 := hr 0 _ rfl
  have r1 := hr 1 _ rfl
  have r2 := hr 2 _ rfl
  have hvs : vs = #[vs.getD 0 undef, vs.getD 1 undef, vs.getD 2 undef] := by
    have h3 : vs.size = 3 := hs
    apply Array.ext
    · simp [h3]
    · intro k h1 h2
      match k, h1 with
      | 0, h1 => simp [Array.getD, h3]
      | 1, h1 => simp [Array.getD, h3]
      | 2, h1 => simp [Array.getD, h3]
      | k + 3, h1 => omega
  generalize vs.getD 0 undef = v0 at r0 hvs
  generalize vs.getD 1 undef = v1 at r1 hvs
  generalize vs.getD 2 undef = v2 at r2 hvs
  subst hvs
  cases r1
  cases r2
  cases r0
  rename_i cap cs e fr hc0 hb h1 h2 h3
  have ho := I.obj _ List.mem_cons_self
  obtain ⟨cs', e', fr', l1, l2, l3, l4, l5, l6⟩ := ho.lies rfl
  rw [hb] at l1
  cases l1
  simp only at l2 l3 l4 l5 l6
  have cell : ∀ k, k < n * 5 → ∃ v, cs[k]? = some v ∧ v.oneCell' = true := by
    intro k hk
    obtain ⟨f1, f2, f3⟩ := flat_div hk
    have hrow : rows[k / 5]? = some (rows[k / 5]'(by omega)) := List.getElem?_eq_getElem (by omega)
    have hlr := l5 _ _ hrow
    have ha : (rows[k / 5]'(by omega))[k % 5]? = some ((rows[k / 5]'(by omega))[k % 5]'(by omega)) := List.getElem?_eq_getElem (by omega)
    obtain ⟨v, hv, hcl, hrep⟩ := l6 _ _ _ _ hrow ha
    exact ⟨v, by rw [f3]; exact hv, hrep.oneCell hcl⟩
  have cget : ∀ (W : World) (cc : Array Value) (k : Nat), W.heap[G.m t]? = some (.cells cc e fr) → W.cell? ⟨G.m t, k, none⟩ = cc[k]? := fun W cc k h => by simp [World.cell?, h]
  have hsz : n * 5 ≤ cs.size := by rw [← hn]; exact l3
  obtain ⟨news, hnews⟩ : ∃ news, news = (List.range ((n - (i + 1)) * 5)).map fun k => cs.getD ((i + 1) * 5 + k) undef := ⟨_, rfl⟩
  have nlen : news.length = (n - (i + 1)) * 5 := by rw [hnews]; simp
  have nget : ∀ k, k < (n - (i + 1)) * 5 → news[k]? = cs[(i + 1) * 5 + k]? := by
    intro k hk
    obtain ⟨v, hv, _⟩ := cell ((i + 1) * 5 + k) (by omega)
    rw [hnews, List.getElem?_map, List.getElem?_range hk, hv]
    simp [Array.getD_eq_getD_getElem?, hv]
  have nlt : ∀ {k u}, news[k]? = some u → k < (n - (i + 1)) * 5 := fun h => by have := (List.getElem?_eq_some_iff.1 h).1; omega
  have hone : ∀ u, u ∈ news → u.oneCell' = true := by
    intro u hu
    obtain ⟨k, hk⟩ := List.mem_iff_getElem?.1 hu
    have hkl := nlt hk
    rw [nget k hkl] at hk
    obtain ⟨v, hv, hv1⟩ := cell ((i + 1) * 5 + k) (by omega)
    rw [hv] at hk
    cases hk
    exact hv1
  have hbd : w.drew.heap[G.m t]? = some (.cells cs e fr) := hb
  have eW := setCells_eq news w.drew (G.m t) (i * 5) cs e fr hbd
  have hW1 : (w.drew.setCells (G.m t) (i * 5) news).heap[G.m t]? = some (.cells (putCells cs (i * 5) news) e fr) := by
    rw [eW, wset_get, if_pos rfl, if_pos (lt_of_get hbd)]
  have eW2 := setCells_eq zJob _ (G.m t) ((n - 1) * 5) _ e fr hW1
  rw [eW, wset_wset] at eW2
  obtain ⟨c2, hc2⟩ : ∃ c2, c2 = putCells (putCells cs (i * 5) news) ((n - 1) * 5) zJob := ⟨_, rfl⟩
  rw [← hc2] at eW2
  have c2s : c2.size = cs.size := by rw [hc2, putCells_size, putCells_size]
  have frz : ∀ (W : World) (cc : Array Value) (k : Nat), W.heap[G.m t]? = some (.cells cc e fr) → k < cs.size → W.frozen? ⟨G.m t, k, none⟩ = false := fun W cc k h hk => frozen_false h (l2 k hk)
  refine (del_calls w _ (G.m t) n cap i news hi h2 nlen hone (fun k u hu => ?_) (fun k hk => ?_) rfl (fun k hk => ?_)).mono ?_
  · rw [cget _ cs _ hbd, ← nget k (nlt hu)]; exact hu
  · refine ⟨?_, frz _ _ _ hbd (by omega)⟩
    rw [cget _ cs _ hbd]
    obtain ⟨v, hv, _⟩ := cell k hk
    rw [hv]; rfl
  · refine ⟨?_, frz _ _ _ hW1 (by omega)⟩
    rw [cget _ _ _ hW1, Array.getElem?_eq_getElem (by rw [putCells_size]; omega)]; rfl
  rintro en w' ⟨rfl, rfl⟩
  have hob : ObjOk G (w.heap.setIfInBounds (G.m t) (.cells c2 e fr)) ⟨false, t, 5, skipRows rows i⟩ := by
    have hh : (w.heap.setIfInBounds (G.m t) (.cells c2 e fr))[G.m t]? = some (.cells c2 e fr) := by
      rw [Array.getElem?_setIfInBounds, if_pos rfl, if_pos (lt_of_get hb)]
    have hk : (skipRows rows i).length = n - 1 := by unfold skipRows; simp; omega
    have x1 : Ext1 G w.heap G (w.heap.setIfInBounds (G.m t) (.cells c2 e fr)) := Ext1.write (fun u hF => I.nfz_m (mem_tags (o := ⟨false, t, 5, rows⟩) List.mem_cons_self) hF) fun c1 e1 f1 h => by
      rw [hb] at h; cases h; exact ⟨_, _, rfl, c2s⟩
    refine ⟨hc0, fun _ => ⟨c2, e, fr, hh, fun k hk => l2 k (by omega), ?_, ?_, fun r row hr => ?_, fun r j row a hr ha => ?_⟩, fun h => by cases h⟩
    · show (skipRows rows i).length * 5 ≤ c2.size
      rw [hk]; omega
    · show (skipRows rows i).length ≤ mx
      rw [hk]; omega
    · exact l5 _ _ (get_skip rows i r (by omega) hr).2
    · obtain ⟨g1, g2⟩ := get_skip rows i r (by omega) hr
      have hj5 : j < 5 := by
        have := l5 _ _ g2
        have := (List.getElem?_eq_some_iff.1 ha).1
        omega
      obtain ⟨v, hv, hcl, hrep⟩ := l6 _ _ _ _ g2 ha
      refine ⟨v, ?_, hcl, hrep.ext x1⟩
      show c2[r * 5 + j]? = some v
      rw [hc2, putCells_out _ _ _ _ (.inl (by omega))]
      by_cases h1 : r < i
      · rw [if_pos h1] at hv
        rw [putCells_out _ _ _ _ (.inl (by omega))]
        exact hv
      · rw [if_neg h1] at hv
        have hkk : r * 5 + j = i * 5 + (r * 5 + j - i * 5) := by omega
        rw [hkk]
        refine putCells_in _ _ _ _ _ (by omega) ?_
        rw [nget _ (by omega)]
        rw [show (i + 1) * 5 + (r * 5 + j - i * 5) = (r + 1) * 5 + j by omega]
        exact hv
  obtain ⟨x, I'⟩ := I.write (i := 0) (ob' := ⟨false, t, 5, skipRows rows i⟩) (o := .cells c2 e fr) rfl rfl (fun c1 e1 f1 h => by
    rw [hb] at h; cases h; exact ⟨_, _, rfl, c2s⟩) hob
  have hx := (Ext.write (i := 0) (ob' := ⟨false, t, 5, skipRows rows i⟩) (o := .cells c2 e fr) I rfl rfl x).draw
  rw [eW, eW2]
  refine ⟨_, _, _, G, rfl, ⟨rfl, rfl⟩, hx, I', ?_⟩
  have hh : (wset w.drew (G.m t) (.cells c2 e fr)).heap[G.m t]? = some (.cells c2 e fr) := by
    rw [wset_get, if_pos rfl, if_pos (lt_of_get hbd)]
  exact .ref hc0 hh (by omega) (by omega) (by omega)
end A
end Go.Proofs.YtfcimcoanlgldaaGreat

/-
  StartWork as0 a plain function. No condition.
-/



namespace Go.Proofs.YtfcimcoanlgldaaGreat
namespace A
set_option linter.unusedVariables false
set_option linter.unusedSimpArgs false
set_option maxRecDepth 100000

/-- The job as0 it starts, its session's data, the sessions then; none: it must wait. -/
def pickJ (now w : Int) (ss : List TSession) (j : TJob) : Option (TJob × List UInt8 × List TSession) :=
  if j.Session = [] then some (j, [], ss)
  else if (openS j.Session (w + 1) now ss).2.2 = 0 then some (j, (openS j.Session (w + 1) now ss).2.1, (openS j.Session (w + 1) now ss).1)
  else if (openS j.Session (w + 1) now ss).2.2 = 3 then some (⟨j.Id, j.Request, []⟩, [], ss) else none
def idleW (s : TServer) (w : Int) : Bool := inR w 0 ((s.Workers.list.length : Int) - 1) && (match s.Workers.list[w.toNat]? with | some x => decide (x.State = 0) | none => false)
def staI (s : TServer) (w : Int) : Nat := s.Queue.list.findIdx fun j => (pickJ s.Now w s.Sessions.list j).isSome
def staJ (s : TServer) (w : Int) : Option (TJob × List UInt8 × List TSession) := (s.Queue.list[staI s w]?).bind (pickJ s.Now w s.Sessions.list)
def staOk (s : TServer) (w : Int) : Bool := idleW s w && (staJ s w).isSome
def busyW (x : TWorker) (j : TJob) (d : List UInt8) (fs : List TFile) : TWorker := ⟨1, j, d, .mk 0 fs, x.Served⟩
def start (s : TServer) (w : Int) : TServer :=
  match idleW s w, staJ s w, s.Workers.list[w.toNat]? with
  | true, some (j, d, ss), some x => { s with Sessions := .mk 0 ss, Queue := .mk 0 (s.Queue.list.take (staI s w) ++ s.Queue.list.drop (staI s w + 1)), Workers := .mk 0 (s.Workers.list.set w.toNat (busyW x j d s.Files.list)) }
  | _, _, _ => s
theorem openS_code (id : List UInt8) (who now : Int) (l : List TSession) : (openS id who now l).2.2 = 0 ∨ ((openS id who now l).1 = l ∧ (openS id who now l).2.1 = []) := by
  unfold openS
  split
  · split
    · split
      · split
        · exact .inl rfl
        · exact .inr ⟨rfl, rfl⟩
      · exact .inr ⟨rfl, rfl⟩
    · split
      · exact .inr ⟨rfl, rfl⟩
      · exact .inl rfl
  · exact .inr ⟨rfl, rfl⟩
theorem pickJ_con (now w : Int) (ss : List TSession) (j : TJob) : pickJ now w ss j.con = (pickJ now w ss j).map fun p => (p.1.con, p.2) := by
  unfold pickJ
  have h : j.con.Session = j.Session := rfl
  rw [h]
  split
  · rfl
  · split
    · rfl
    · split
      · rfl
      · rfl
theorem pickJ_map (now w : Int) (ss : List TSession) {a b : TJob} (h : a.con = b.con) : (pickJ now w ss a).map (fun p => (p.1.con, p.2)) = (pickJ now w ss b).map fun p => (p.1.con, p.2) := by
  rw [← pickJ_con, ← pickJ_con, h]
theorem findIdx_con {p : TJob → Bool} (hp : ∀ x y : TJob, x.con = y.con → p x = p y) : ∀ {l m : List TJob}, l.map TJob.con = m.map TJob.con → l.findIdx p = m.findIdx p
  | [], [], _ => rfl
  | [], y :: m, h => by simp at h
  | x :: l, [], h => by simp at h
  | x :: l, y :: m, h => by
    simp only [List.map_cons, List.cons.injEq] at h
    rw [List.findIdx_cons, List.findIdx_cons, hp x y h.1, findIdx_con hp h.2]
theorem sta_same {a b : TServer} (h : a.con = b.con) (w : Int) : staI a w = staI b w ∧ idleW a w = idleW b w ∧ (staJ a w).map (fun p => (p.1.con, p.2)) = (staJ b w).map (fun p => (p.1.con, p.2)) := by
  have qQ : a.Queue.list.map TJob.con = b.Queue.list.map TJob.con := congrArg (fun t : TServer => t.Queue.list) h
  have qS : a.Sessions.list = b.Sessions.list := sessCon (congrArg (fun t : TServer => t.Sessions.list) h)
  have qW : a.Workers.list.map TWorker.con = b.Workers.list.map TWorker.con := congrArg (fun t : TServer => t.Workers.list) h
  have qWl : a.Workers.list.length = b.Workers.list.length := by simpa using congrArg List.length qW
  have qN : a.Now = b.Now := by have := congrArg (fun t : TServer => t.Now) h; exact this
  have hp : ∀ x y : TJob, x.con = y.con → (pickJ b.Now w b.Sessions.list x).isSome = (pickJ b.Now w b.Sessions.list y).isSome := fun x y hxy => by
    have := congrArg Option.isSome (pickJ_map b.Now w b.Sessions.list hxy)
    simpa using this
  have hI : staI a w = staI b w := by
    unfold staI
    rw [qN, qS]
    exact findIdx_con hp qQ
  refine ⟨hI, ?_, ?_⟩
  · unfold idleW
    rw [qWl]
    congr 1
    have hg : (a.Workers.list[w.toNat]?).map TWorker.con = (b.Workers.list[w.toNat]?).map TWorker.con := by
      have := congrArg (fun l : List TWorker => l[w.toNat]?) qW
      simpa only [List.getElem?_map] using this
    cases h1 : a.Workers.list[w.toNat]? with
    | none =>
      cases h2 : b.Workers.list[w.toNat]? with
      | none => rfl
      | some y => rw [h1, h2] at hg; cases hg
    | some x =>
      cases h2 : b.Workers.list[w.toNat]? with
      | none => rw [h1, h2] at hg; cases hg
      | some y =>
        rw [h1, h2] at hg
        simp only [Option.map_some, Option.some.injEq] at hg
        have : x.State = y.State := by have := congrArg (fun t : TWorker => t.State) hg; exact this
        simp only [this]
  · unfold staJ
    rw [hI, qN, qS]
    have hg : (a.Queue.list[staI b w]?).map TJob.con = (b.Queue.list[staI b w]?).map TJob.con := by
      have := congrArg (fun l : List TJob => l[staI b w]?) qQ
      simpa only [List.getElem?_map] using this
    cases h1 : a.Queue.list[staI b w]? with
    | none =>
      cases h2 : b.Queue.list[staI b w]? with
      | none => rfl
      | some y => rw [h1, h2] at hg; cases hg
    | some x =>
      cases h2 : b.Queue.list[staI b w]? with
      | none => rw [h1, h2] at hg; cases hg
      | some y =>
        rw [h1, h2] at hg
        simp only [Option.map_some, Option.some.injEq] at hg
        exact pickJ_map _ _ _ hg
theorem staOk_con {a b : TServer} (h : a.con = b.con) (w : Int) : staOk a w = staOk b w := by
  obtain ⟨h1, h2, h3⟩ := sta_same h w
  unfold staOk
  rw [h2]
  have := congrArg Option.isSome h3
  simp only [Option.isSome_map] at this
  rw [this]
theorem start_con {a b : TServer} (h : a.con = b.con) (w : Int) : (start a w).con = (start b w).con := by
  obtain ⟨hI, hid, hJ⟩ := sta_same h w
  have qQ : a.Queue.list.map TJob.con = b.Queue.list.map TJob.con := congrArg (fun t : TServer => t.Queue.list) h
  have qW : a.Workers.list.map TWorker.con = b.Workers.list.map TWorker.con := congrArg (fun t : TServer => t.Workers.list) h
  have qF : a.Files.list.map TFile.con = b.Files.list.map TFile.con := congrArg (fun t : TServer => t.Files.list) h
  have cF : a.Files.con TFile.con = b.Files.con TFile.con := congrArg TServer.Files h
  have cL : a.Lines.con TLine.con = b.Lines.con TLine.con := congrArg TServer.Lines h
  have cD : a.Done.con TAnswer.con = b.Done.con TAnswer.con := congrArg TServer.Done h
  have cN : a.Next = b.Next := by have := congrArg (fun t : TServer => t.Next) h; exact this
  have cT : a.Now = b.Now := by have := congrArg (fun t : TServer => t.Now) h; exact this
  have hg : (a.Workers.list[w.toNat]?).map TWorker.con = (b.Workers.list[w.toNat]?).map TWorker.con := by
    have := congrArg (fun l : List TWorker => l[w.toNat]?) qW
    simpa only [List.getElem?_map] using this
  unfold start
  rw [hid]
  cases hb : idleW b w with
  | false => exact h
  | true =>
    cases h1 : staJ a w with
    | none =>
      cases h2 : staJ b w with
      | none => exact h
      | some q => rw [h1, h2] at hJ; cases hJ
    | some p =>
      cases h2 : staJ b w with
      | none => rw [h1, h2] at hJ; cases hJ
      | some q =>
        rw [h1, h2] at hJ
        simp only [Option.map_some, Option.some.injEq, Prod.mk.injEq] at hJ
        obtain ⟨hj, hr⟩ := hJ
        cases h3 : a.Workers.list[w.toNat]? with
        | none =>
          cases h4 : b.Workers.list[w.toNat]? with
          | none => exact h
          | some y => rw [h3, h4] at hg; cases hg
        | some x =>
          cases h4 : b.Workers.list[w.toNat]? with
          | none => rw [h3, h4] at hg; cases hg
          | some y =>
            rw [h3, h4] at hg
            simp only [Option.map_some, Option.some.injEq] at hg
            have hs : x.Served = y.Served := by have := congrArg (fun t : TWorker => t.Served) hg; exact this
            obtain ⟨p1, p2, p3⟩ := p
            obtain ⟨q1, q2, q3⟩ := q
            simp only [Prod.mk.injEq] at hr
            obtain ⟨rfl, rfl⟩ := hr
            have cB : (busyW x p1 p2 a.Files.list).con = (busyW y q1 p2 b.Files.list).con := by
              simp only [busyW, TWorker.con, SL.con, SL.list_mk, qF, hs]
              simp only at hj
              rw [hj]
            simp only [TServer.con, SL.con, SL.list_mk, List.map_append, List.map_take, List.map_drop, List.map_set, qQ, qW, hI, cB, cN, cT] at cF cL cD ⊢
            rw [cF, cL, cD]
theorem szL_sub {α : Type} (f : α → Nat) {l m : List α} (h : l.Sublist m) : szL f l ≤ szL f m := by
  induction h with
  | slnil => exact Nat.le_refl _
  | cons a h ih => simp [szL] at ih ⊢; omega
  | cons_cons a h ih => simp [szL] at ih ⊢; omega
theorem skip_sub {α : Type} (l : List α) (i : Nat) : (l.take i ++ l.drop (i + 1)).Sublist l := by
  have h : (l.take i ++ l.drop (i + 1)).Sublist (l.take i ++ l.drop i) := (List.Sublist.refl _).append (by rw [← List.drop_drop]; exact List.drop_sublist _ _)
  rwa [List.take_append_drop] at h
theorem szL_setW {α : Type} (f : α → Nat) : ∀ (l : List α) (i : Nat) (z : α), szL f (l.set i z) ≤ szL f l + f z := by
  intro l
  induction l with
  | nil => intro i z; simp [szL]
  | cons x l ih =>
    intro i z
    cases i with
    | zero => simp [szL]; omega
    | succ i => have := ih i z; simp [szL] at this ⊢; omega
theorem data_open (id : List UInt8) (who now : Int) (l : List TSession) : (openS id who now l).2.1.length ≤ szL TSession.sz l := by
  unfold openS
  split
  · split
    · split
      · rename_i x hx
        split
        · have := szL_mem (sz := TSession.sz) (List.mem_of_getElem? hx)
          have e : x.sz = x.Id.length + x.Data.length := rfl
          show x.Data.length ≤ _
          omega
        · simp
      · simp
    · split <;> simp
  · simp
theorem pick_sz {now w : Int} {ss : List TSession} {j : TJob} {p : TJob × List UInt8 × List TSession} (h : pickJ now w ss j = some p) :
    p.1.sz ≤ j.sz ∧ p.2.1.length ≤ szL TSession.sz ss ∧ p.2.2.length + szL TSession.sz p.2.2 ≤ ss.length + 1 + (2 * szL TSession.sz ss + j.sz) := by
  have hj : j.sz = j.Request.sz + j.Session.length := rfl
  unfold pickJ at h
  split at h
  · cases h; exact ⟨Nat.le_refl _, by simp, by simp; omega⟩
  · split at h
    · cases h
      refine ⟨Nat.le_refl _, data_open .., ?_⟩
      have := size_open (id := j.Session) (who := w + 1) (now := now) ss
      simp only at this ⊢
      omega
    · split at h
      · cases h
        refine ⟨?_, by simp, by simp; omega⟩
        show j.Request.sz + 0 ≤ _
        omega
      · cases h
theorem start_sz {s : TServer} {w : Int} (h : s.sz ≤ 1048576) : (start s w).sz ≤ 16777216 := by
  unfold start
  split
  · rename_i j d ss x h1 h2 h3
    obtain ⟨j0, hj0, hp⟩ := Option.bind_eq_some_iff.1 h2
    obtain ⟨b1, b2, b3⟩ := pick_sz hp
    have hjs := szL_mem (sz := TJob.sz) (List.mem_of_getElem? hj0)
    simp only [TServer.sz, szFileS, szLineS, szSessionS, szJobS, szWorkerS, szAnswerS, SL.list_mk, List.length_set] at h ⊢
    have c1 := szL_sub TJob.sz (skip_sub s.Queue.list (staI s w))
    have c2 := (skip_sub s.Queue.list (staI s w)).length_le
    have c3 := szL_setW TWorker.sz s.Workers.list w.toNat (busyW x j d s.Files.list)
    have c4 : (busyW x j d s.Files.list).sz = j.sz + d.length + (s.Files.list.length + szL TFile.sz s.Files.list) := rfl
    simp only at b1 b2 b3
    omega
  · omega
end A
end Go.Proofs.YtfcimcoanlgldaaGreat

/-
  StartWork of the reference and of the program are the same plain function. No condition.
-/

namespace Go.Proofs.YtfcimcoanlgldaaGreat
namespace A
set_option linter.unusedVariables false
set_option linter.unusedSimpArgs false
set_option maxRecDepth 100000

def StaK (s : TServer) (w : Int) (r : AV) (O : List AObj) : Prop := ∃ (b : TServer) (l : List AV) (U T G : List AObj), r = .tup [.agg l, .bool (staOk s w)] ∧ Views [] l b.encO ∧ O = U ++ T ∧ T.Perm (b.inn ++ G) ∧ b.con = (start s w).con
def StaQ (s : TServer) (w : Int) (r : AV) (O : List AObj) : Prop := ∃ b : TServer, r = .tup [.agg b.encO, .bool (staOk s w)] ∧ O = b.inn ∧ b.con = (start s w).con
theorem con_staK {f : Nat} {args : List AV} {s : TServer} {w : Int} {c : Nat} (h : Con Tryz.prog f args [] c fun r O _ => StaK s w r O) : Con Tryz.prog f args [] c fun r O _ => StaQ s w r O :=
  Con.fin (con_perm (Q' := fun r O _ => ∃ (b : TServer) (l : List AV), r = .tup [.agg l, .bool (staOk s w)] ∧ Views [] l b.encO ∧ O = b.inn ∧ b.con = (start s w).con) h fun r O c' ⟨b, l, U, T, G, h1, h2, h3, h4, h5⟩ => by
    obtain ⟨Ts, hTp, hTs⟩ := List.exists_perm_sublist (List.sublist_append_left b.inn G) h4.symm
    exact ⟨Ts, b.inn, by rw [h3]; exact hTs.trans (List.sublist_append_right _ _), hTp.symm, b, l, h1, h2, rfl, h5⟩) fun r O c' _ ⟨b, l, h1, h2, h3, h4⟩ _ _ => by
      subst h1; subst h3
      exact fin_sub (List.Sublist.refl _) (view_tup (.cons (view_agg h2 b.cellsO) (.cons (.refl _) .nil))) ⟨b, rfl, rfl, h4⟩
theorem start_no {s : TServer} {w : Int} (h : staOk s w = false) : start s w = s := by
  unfold start
  unfold staOk at h
  split
  · rename_i h1 h2 h3
    rw [h1, h2] at h
    simp at h
  · rfl
@[simp] theorem getW_p3 {α : Type} (A M1 M2 X : List α) (q w o : α) (K : α → Prop) : getW (A ++ q :: (M1 ++ w :: (M2 ++ o :: X))) (A.length + (M1.length + (M2.length + 1) + 1)) K = K o := by
  have e : A ++ q :: (M1 ++ w :: (M2 ++ o :: X)) = (A ++ q :: (M1 ++ w :: M2)) ++ o :: X := by simp
  have e2 : A.length + (M1.length + (M2.length + 1) + 1) = (A ++ q :: (M1 ++ w :: M2)).length := by simp
  rw [e, e2, getW_len]
@[simp] theorem getW_p4 {α : Type} (A M1 M2 X : List α) (q w o b : α) (K : α → Prop) : getW (A ++ q :: (M1 ++ w :: (M2 ++ o :: b :: X))) (A.length + (M1.length + (M2.length + 1 + 1) + 1)) K = K b := by
  have e : A ++ q :: (M1 ++ w :: (M2 ++ o :: b :: X)) = (A ++ q :: (M1 ++ w :: (M2 ++ [o]))) ++ b :: X := by simp
  have e2 : A.length + (M1.length + (M2.length + 1 + 1) + 1) = (A ++ q :: (M1 ++ w :: (M2 ++ [o]))).length := by simp
  rw [e, e2, getW_len]
@[simp] theorem set_p3 {α : Type} (A M1 M2 X : List α) (q w o z : α) : (A ++ q :: (M1 ++ w :: (M2 ++ o :: X))).set (A.length + (M1.length + (M2.length + 1) + 1)) z = A ++ q :: (M1 ++ w :: (M2 ++ z :: X)) := by
  have e : A ++ q :: (M1 ++ w :: (M2 ++ o :: X)) = (A ++ q :: (M1 ++ w :: M2)) ++ o :: X := by simp
  have e2 : A.length + (M1.length + (M2.length + 1) + 1) = (A ++ q :: (M1 ++ w :: M2)).length := by simp
  rw [e, e2, List.set_append_right _ _ (Nat.le_refl _)]
  simp
@[simp] theorem set_p4 {α : Type} (A M1 M2 X : List α) (q w o b z : α) : (A ++ q :: (M1 ++ w :: (M2 ++ o :: b :: X))).set (A.length + (M1.length + (M2.length + 1 + 1) + 1)) z = A ++ q :: (M1 ++ w :: (M2 ++ o :: z :: X)) := by
  have e : A ++ q :: (M1 ++ w :: (M2 ++ o :: b :: X)) = (A ++ q :: (M1 ++ w :: (M2 ++ [o]))) ++ b :: X := by simp
  have e2 : A.length + (M1.length + (M2.length + 1 + 1) + 1) = (A ++ q :: (M1 ++ w :: (M2 ++ [o]))).length := by simp
  rw [e, e2, List.set_append_right _ _ (Nat.le_refl _)]
  simp
theorem seq_cutS {P : Program} {A B : IR} {Q : Post} {e : Env} {H : List AObj} {c : Nat} (R : Env → List AObj → Nat → Prop) (hB : ∀ e H c, R e H c → irW P B Q e H c)
    (hA : ∀ K : Env → List AObj → Nat → Prop, (∀ e H c, R e H c → K e H c) → irW P A (thenQ K Q) e H c) : irW P (A.seq B) Q e H c := hA _ hB
theorem blk_cutS {P : Program} {A : IR} {Q : Post} {id : Nat} {e : Env} {H : List AObj} {c : Nat} (h : irW P A (blockQ id Q) e H c) : irW P (.block id A) Q e H c := h
theorem call_at {P : Program} {K : AV → List AObj → Nat → Prop} {f : Nat} {l l' : List AV} {a : AObj} {B C : List AObj} {c : Nat} {Q : AV → List AObj → Nat → Prop} (hf : Con P f l' [a] c Q) (hv : Views [] l l')
    (k : ∀ r O c', c ≤ c' → Q r O c' → ∃ a' r', O = [a'] ∧ a'.tag = a.tag ∧ View [] r r' ∧ Av [] r' ∧ AvRows [] a' ∧ K r' (B ++ a' :: C) c') : CallW P f l (B ++ a :: C) c K := by
  intro hn hlt
  obtain ⟨h1, h2⟩ := hv.spec
  refine ⟨[a], [], l', Q, (sub_one a C).trans (List.sublist_append_right _ _), by simp, by simp [tags], h1, h2, hf, fun r O c' hc hq ho hd => ?_⟩
  obtain ⟨a', r', rfl, ht, k1, k2, k3, k4⟩ := k r O c' hc hq
  have et : tags (B ++ a' :: C) = tags (B ++ a :: C) := by simp [tags, ht]
  refine ⟨B ++ a' :: C, r', fun o h => ?_, by rw [et]; exact hn, k1, k2, fun o _ h => by
    rcases List.mem_singleton.1 h with rfl
    exact k3, k4⟩
  have hn2 : (tags B ++ a.tag :: tags C).Nodup := by simpa [tags] using hn
  obtain ⟨n1, n2, n3⟩ := List.nodup_append.1 hn2
  rcases List.mem_append.1 h with h | h
  · refine .inr ⟨List.mem_append_left _ h, fun hm => ?_⟩
    simp [tags] at hm
    exact n3 _ (mem_tags h) _ List.mem_cons_self hm
  · rcases List.mem_cons.1 h with rfl | h
    · exact .inl List.mem_cons_self
    · refine .inr ⟨List.mem_append_right _ (List.mem_cons_of_mem _ h), fun hm => ?_⟩
      simp [tags] at hm
      exact (List.nodup_cons.1 n2).1 (hm ▸ mem_tags h)
theorem pick_req {now w : Int} {ss : List TSession} {j : TJob} {p : TJob × List UInt8 × List TSession} (h : pickJ now w ss j = some p) : p.1.Request = j.Request := by
  unfold pickJ at h
  split at h
  · cases h; rfl
  · split at h
    · cases h; rfl
    · split at h
      · cases h; rfl
      · cases h
theorem skip_cnt {α : Type} {inn : α → List AObj} {l : List α} {i : Nat} {y : α} (h : l[i]? = some y) (p : AObj → Bool) : ((l.take i ++ l.drop (i + 1)).flatMap inn).countP p + (inn y).countP p = (l.flatMap inn).countP p := by
  obtain ⟨hi, hy⟩ := List.getElem?_eq_some_iff.1 h
  have e : l = l.take i ++ y :: l.drop (i + 1) := by rw [← hy, ← List.drop_eq_getElem_cons hi, List.take_append_drop]
  have e1 : l.flatMap inn = (l.take i ++ y :: l.drop (i + 1)).flatMap inn := congrArg (fun m => List.flatMap inn m) e
  rw [e1]
  simp only [List.flatMap_append, List.flatMap_cons, List.countP_append]
  omega
theorem setW_cnt {α : Type} {inn : α → List AObj} {l : List α} {k : Nat} {x : α} (h : l[k]? = some x) (z : α) (p : AObj → Bool) : ((l.set k z).flatMap inn).countP p + (inn x).countP p = (l.flatMap inn).countP p + (inn z).countP p := by
  obtain ⟨hi, hy⟩ := List.getElem?_eq_some_iff.1 h
  have e : l = l.take k ++ x :: l.drop (k + 1) := by rw [← hy, ← List.drop_eq_getElem_cons hi, List.take_append_drop]
  have e1 : l.flatMap inn = (l.take k ++ x :: l.drop (k + 1)).flatMap inn := congrArg (fun m => List.flatMap inn m) e
  rw [List.set_eq_take_append_cons_drop, if_pos hi, e1]
  simp only [List.flatMap_append, List.flatMap_cons, List.countP_append]
  omega
theorem staJ_none {s : TServer} {w : Int} (h : ∀ j, (hj : j < s.Queue.list.length) → (pickJ s.Now w s.Sessions.list s.Queue.list[j]).isSome = false) : staJ s w = none := by
  unfold staJ
  cases hg : s.Queue.list[staI s w]? with
  | none => rfl
  | some x =>
    have hlt := (List.getElem?_eq_some_iff.1 hg).1
    have h1 : (pickJ s.Now w s.Sessions.list s.Queue.list[staI s w]).isSome = true := List.findIdx_getElem (p := fun j => (pickJ s.Now w s.Sessions.list j).isSome) (w := hlt)
    rw [h _ hlt] at h1
    cases h1
theorem staI_at {s : TServer} {w : Int} {i : Nat} {x : TJob} (hx : s.Queue.list[i]? = some x) (h1 : ∀ j, (hj : j < s.Queue.list.length) → j < i → (pickJ s.Now w s.Sessions.list s.Queue.list[j]).isSome = false) (h2 : (pickJ s.Now w s.Sessions.list x).isSome = true) : staI s w = i := by
  obtain ⟨hi, hx'⟩ := List.getElem?_eq_some_iff.1 hx
  refine (List.findIdx_eq hi).2 ⟨by rw [hx']; exact h2, fun j hj => h1 j (by omega) hj⟩
theorem impl_staK {s : TServer} {w : Int} (hs : SmSrv s) (hso : okSessionS s.Sessions) (hsj : ∀ j, j ∈ s.Queue.list → j.Session.length ≤ mx) (hw : -9223372036854775808 ≤ w ∧ w ≤ 9223372036854775807) (c : Nat) : Con Tryz.prog 13 [.agg s.enc, .int .i64 w] [] c fun r O _ => StaK s w r O := by
  have z7 := hs.2.2.2.2.2.2.1
  have hw1 : IntKind.i64.wrap ((s.Workers.list.length : Int) - 1) = (s.Workers.list.length : Int) - 1 := wrap64 (by omega) (by omega)
  refine con_of c13 (by simp [F13]) ?_
  unfold F13
  cases hok : idleW s w
  · have hno : staOk s w = false := by unfold staOk; rw [hok]; rfl
    simp [putA]
    refine call_new (impl_cpSrvO hs _) (Views.refl _ _) fun r1 O1 c1 hc1 ⟨b0, hr, hO, q0⟩ _ _ => ?_
    subst hr; subst hO
    refine ⟨_, .refl _, free_agg (TServer.freeO b0) _, fun o ho => TServer.freeI b0 o ho _, ?_⟩
    simp [putA, hw1]
    refine call_fn0 (inRange_fn _ _ _) .bool fun _ _ => ?_
    have fin : ∀ (U : List AObj) (x : AObj), StaK s w (.tup [.agg b0.encO, .bool false]) (U ++ (b0.inn ++ [x])) := fun U x => ⟨b0, b0.encO, U, b0.inn ++ [x], [x], by rw [hno], Views.refl _ _, rfl, List.Perm.refl _, by rw [start_no hno]; exact q0⟩
    cases hin : inR w 0 ((s.Workers.list.length : Int) - 1)
    · simp [putA]
      exact fin_all (fin [_, _] _)
    · have hin0 := hin
      unfold inR at hin
      simp only [Bool.and_eq_true, decide_eq_true_eq] at hin
      obtain ⟨k, rfl⟩ := Int.eq_ofNat_of_zero_le hin.1
      have hk : k < s.Workers.list.length := by omega
      have hg : s.Workers.list[k]? = some s.Workers.list[k] := List.getElem?_eq_getElem hk
      unfold idleW at hok
      rw [hin0, Int.toNat_natCast, hg] at hok
      simp only [Bool.true_and, decide_eq_false_iff_not] at hok
      generalize s.Workers.list[k] = x at hg hok
      simp [putA, hk]
      refine ⟨x, hg, ?_⟩
      simp [putA, hk, hok]
      exact fin_all (fin [_, _] _)
  · have hok0 := hok
    unfold idleW at hok
    rw [Bool.and_eq_true] at hok
    obtain ⟨hin0, hst⟩ := hok
    have hin := hin0
    unfold inR at hin
    simp only [Bool.and_eq_true, decide_eq_true_eq] at hin
    obtain ⟨k, rfl⟩ := Int.eq_ofNat_of_zero_le hin.1
    have hk : k < s.Workers.list.length := by omega
    have hg : s.Workers.list[k]? = some s.Workers.list[k] := List.getElem?_eq_getElem hk
    rw [Int.toNat_natCast, hg] at hst
    simp only [decide_eq_true_eq] at hst
    have hw2 : IntKind.i64.wrap ((k : Int) + 1) = (k : Int) + 1 := wrap64 (by omega) (by omega)
    simp [putA]
    refine call_new (impl_cpSrvO hs _) (Views.refl _ _) fun r1 O1 c1 hc1 ⟨b0, hr, hO, q0⟩ _ _ => ?_
    subst hr; subst hO
    have qQ : b0.Queue.list.map TJob.con = s.Queue.list.map TJob.con := congrArg (fun t : TServer => t.Queue.list) q0
    have qS : b0.Sessions.list = s.Sessions.list := sessCon (congrArg (fun t : TServer => t.Sessions.list) q0)
    have qW : b0.Workers.list.map TWorker.con = s.Workers.list.map TWorker.con := congrArg (fun t : TServer => t.Workers.list) q0
    have qWl : b0.Workers.list.length = s.Workers.list.length := by simpa using congrArg List.length qW
    have qQl : b0.Queue.list.length = s.Queue.list.length := by simpa using congrArg List.length qQ
    have qT : b0.Now = s.Now := by have := congrArg (fun t : TServer => t.Now) q0; exact this
    obtain ⟨bF, bL, bS, bQ, bW, bD, bN, bT⟩ := b0
    simp only at qQ qS qW qWl qQl qT
    subst qT
    cases bW with
    | nil => simp at qWl; omega
    | mk t ws =>
    simp only [SL.list_mk] at qW qWl
    cases bQ with
    | nil =>
      have q0l : s.Queue.list = [] := List.eq_nil_of_length_eq_zero (by simpa using qQl.symm)
      have hno : staOk s (k : Int) = false := by unfold staOk staJ; rw [q0l]; simp
      refine ⟨_, .refl _, free_agg (TServer.freeO _) _, fun o ho => TServer.freeI _ o ho _, ?_⟩
      simp [putA, hw1]
      refine call_fn0 (inRange_fn _ _ _) .bool fun _ _ => ?_
      simp [putA, hin0, hk]
      refine ⟨_, hg, ?_⟩
      simp [putA, hin0, hk, hst, hw2, qWl, ref_nil]
      refine loop_drop 0 (fun i e H c' => e 4 = .ptr 1 (c + 1) 8 0 0 ∧ e 6 = .ptr ((TServer.mk bF bL bS .nil (.mk t ws) bD bN s.Now).inn.length + 1 + 1) c1 8 0 0 ∧ e 34 = .int .i64 0 ∧ e 35 = .int .i64 0 ∧ H = ⟨false, c, 8, [s.enc]⟩ :: ⟨false, c + 1, 8, [[.nsl, .nsl, .nsl, .nsl, .nsl, .nsl, .int .i64 0, .int .i64 0]]⟩ :: ((TServer.mk bF bL bS .nil (.mk t ws) bD bN s.Now).inn ++ [⟨false, c1, 8, [(TServer.mk bF bL bS .nil (.mk t ws) bD bN s.Now).encO]⟩])) ⟨rfl, rfl, rfl, rfl, rfl⟩ ?_
      intro i e H c' hi ⟨e4, e6, e34, e35, hH⟩ N hN
      subst hH
      simp [e4, e6, e34, e35, putA]
      exact fin_all (⟨⟨bF, bL, bS, .nil, .mk t ws, bD, bN, s.Now⟩, _, [_, _], _, [_], by rw [hno], Views.refl _ _, rfl, List.Perm.refl _, by rw [start_no hno]; exact q0⟩)
    | mk tq l =>
      simp only [SL.list_mk] at qQ qQl
      obtain ⟨A, hA⟩ : ∃ A : List AObj, A = bF.wood 3 TFile.enc noInn ++ (bL.wood 4 TLine.encO TLine.inn ++ bS.wood 4 TSession.enc noInn) := ⟨_, rfl⟩
      obtain ⟨M1, hM1⟩ : ∃ M : List AObj, M = l.flatMap TJob.inn := ⟨_, rfl⟩
      obtain ⟨M2, hM2⟩ : ∃ M : List AObj, M = ws.flatMap TWorker.inn ++ bD.wood 11 TAnswer.encO TAnswer.inn := ⟨_, rfl⟩
      have hI : (TServer.mk bF bL bS (.mk tq l) (.mk t ws) bD bN s.Now).inn = A ++ (⟨false, tq, 5, l.map TJob.encO⟩ :: (M1 ++ (⟨false, t, 9, ws.map TWorker.encO⟩ :: M2))) := by
        rw [hA, hM1, hM2]; simp [TServer.inn, SL.wood, wood]
      rw [hI]
      refine ⟨.agg [bF.ref 3, bL.ref 4, bS.ref 4, .ref (A.length + 2) tq 5 l.length, .ref (A.length + (M1.length + 1) + 2) t 9 ws.length, bD.ref 11, .int .i64 bN, .int .i64 s.Now], view_agg (.cons (.refl _) (.cons (.refl _) (.cons (.refl _) (.cons .name (.cons .name (.cons (.refl _) (.cons (.refl _) (.cons (.refl _) .nil)))))))) ?_, ?_, ?_, ?_⟩
      · intro a ha
        simp only [List.mem_cons, List.not_mem_nil, or_false] at ha
        rcases ha with rfl | rfl | rfl | rfl | rfl | rfl | rfl | rfl <;> first | rfl | exact cell_rf _ _
      · refine free_agg (fun a ha => ?_) _
        simp only [List.mem_cons, List.not_mem_nil, or_false] at ha
        rcases ha with rfl | rfl | rfl | rfl | rfl | rfl | rfl | rfl
        · exact free_ref _ _
        · exact free_ref _ _
        · exact free_ref _ _
        · exact fun _ => .ref
        · exact fun _ => .ref
        · exact free_ref _ _
        · exact free_int _ _
        · exact free_int _ _
      · intro o ho
        rw [← hI] at ho
        exact TServer.freeI _ o ho _
      simp [putA, hw1]
      refine call_fn0 (inRange_fn _ _ _) .bool fun _ _ => ?_
      simp [putA, hin0, hk]
      refine ⟨_, hg, ?_⟩
      simp [putA, hin0, hk, hst, hw2, qWl]
      have hj1 : ∀ i, (hi : i < l.length) → (pickJ s.Now (k : Int) s.Sessions.list l[i]).isSome = (pickJ s.Now (k : Int) s.Sessions.list (s.Queue.list[i]'(by omega))).isSome := fun i hi => by
        have hc : l[i].con = (s.Queue.list[i]'(by omega)).con := by
          have := congrArg (fun m : List TJob => m[i]?) qQ
          simpa [hi, (show i < s.Queue.list.length by omega)] using this
        have := congrArg Option.isSome (pickJ_map s.Now (k : Int) s.Sessions.list hc)
        simpa using this
      refine loop_drop l.length (fun i e H c' => e 1 = .int .i64 k ∧ e 4 = .ptr 1 (c + 1) 8 0 0 ∧ e 6 = .ptr (A.length + (M1.length + (M2.length + 1) + 1) + 1 + 1) c1 8 0 0 ∧ e 33 = .ref (A.length + 2) tq 5 l.length ∧ e 34 = .int .i64 l.length ∧ e 35 = .int .i64 i ∧ (∀ j, (hj : j < l.length) → j < i → (pickJ s.Now (k : Int) s.Sessions.list l[j]).isSome = false) ∧
        H = ⟨false, c, 8, [s.enc]⟩ :: ⟨false, c + 1, 8, [[.nsl, .nsl, .nsl, .nsl, .nsl, .nsl, .int .i64 0, .int .i64 0]]⟩ :: (A ++ ⟨false, tq, 5, l.map TJob.encO⟩ :: (M1 ++ ⟨false, t, 9, ws.map TWorker.encO⟩ :: (M2 ++ [⟨false, c1, 8, [[bF.ref 3, bL.ref 4, bS.ref 4, .ref (A.length + 2) tq 5 l.length, .ref (A.length + (M1.length + 1) + 2) t 9 ws.length, bD.ref 11, .int .i64 bN, .int .i64 s.Now]]⟩])))) ⟨rfl, rfl, by simp [upd], rfl, rfl, rfl, fun j hj h => by omega, by simp [qWl]⟩ ?_
      intro i e H c' hi ⟨e1, e4, e6, e33, e34, e35, hno, hH⟩ N hN
      subst hH
      by_cases h : i < l.length
      · have gy : l[i]? = some l[i] := List.getElem?_eq_getElem h
        have hp := hj1 i h
        have hyl : ∀ y : TJob, y.encO.length = 5 := fun y => rfl
        generalize l[i] = y at gy hp
        refine seq_cutS (fun e' H' c' => e' 1 = .int .i64 k ∧ e' 4 = .ptr 1 (c + 1) 8 0 0 ∧ e' 6 = .ptr (A.length + (M1.length + (M2.length + 1) + 1) + 1 + 1) c1 8 0 0 ∧ e' 33 = .ref (A.length + 2) tq 5 l.length ∧ e' 34 = .int .i64 l.length ∧ e' 35 = .int .i64 i ∧ e' 36 = .bool true ∧ H' = ⟨false, c, 8, [s.enc]⟩ :: ⟨false, c + 1, 8, [[.nsl, .nsl, .nsl, .nsl, .nsl, .nsl, .int .i64 0, .int .i64 0]]⟩ :: (A ++ ⟨false, tq, 5, l.map TJob.encO⟩ :: (M1 ++ ⟨false, t, 9, ws.map TWorker.encO⟩ :: (M2 ++ ⟨false, c1, 8, [[bF.ref 3, bL.ref 4, bS.ref 4, .ref (A.length + 2) tq 5 l.length, .ref (A.length + (M1.length + 1) + 2) t 9 ws.length, bD.ref 11, .int .i64 bN, .int .i64 s.Now]]⟩ :: [])))) ?_ ?_
        rotate_left
        · intro K hK
          simp [e34, e35, h]
          exact hK _ _ _ ⟨by simp [upd, e1], by simp [upd, e4], by simp [upd, e6], by simp [upd, e33], by simp [upd, e34], by simp [upd, e35], by simp [upd], rfl⟩
        clear e1 e4 e6 e33 e34 e35
        intro e H c' ⟨e1, e4, e6, e33, e34, e35, e36, hH⟩
        subst hH
        refine seq_cutS (fun e' H' c' => e' 1 = .int .i64 k ∧ e' 4 = .ptr 1 (c + 1) 8 0 0 ∧ e' 6 = .ptr (A.length + (M1.length + (M2.length + 1) + 1) + 1 + 1) c1 8 0 0 ∧ e' 33 = .ref (A.length + 2) tq 5 l.length ∧ e' 34 = .int .i64 l.length ∧ e' 35 = .int .i64 i ∧ H' = ⟨false, c, 8, [s.enc]⟩ :: ⟨false, c + 1, 8, [[.nsl, .nsl, .nsl, .nsl, .nsl, .nsl, .int .i64 0, .int .i64 0]]⟩ :: (A ++ ⟨false, tq, 5, l.map TJob.encO⟩ :: (M1 ++ ⟨false, t, 9, ws.map TWorker.encO⟩ :: (M2 ++ ⟨false, c1, 8, [[bF.ref 3, bL.ref 4, bS.ref 4, .ref (A.length + 2) tq 5 l.length, .ref (A.length + (M1.length + 1) + 2) t 9 ws.length, bD.ref 11, .int .i64 bN, .int .i64 s.Now]]⟩ :: [])))) ?_ ?_
        rotate_left
        · intro K hK
          simp [e36]
          exact hK _ _ _ ⟨e1, e4, e6, e33, e34, e35, rfl⟩
        clear e1 e4 e6 e33 e34 e35 e36
        intro e H c' ⟨e1, e4, e6, e33, e34, e35, hH⟩
        subst hH
        refine seq_cutS (fun e' H' c' => e' 1 = .int .i64 k ∧ e' 4 = .ptr 1 (c + 1) 8 0 0 ∧ e' 6 = .ptr (A.length + (M1.length + (M2.length + 1) + 1) + 1 + 1) c1 8 0 0 ∧ e' 33 = .ref (A.length + 2) tq 5 l.length ∧ e' 34 = .int .i64 l.length ∧ e' 35 = .int .i64 i ∧ pickJ s.Now (k : Int) s.Sessions.list y = none ∧ (⟨false, c, 8, [s.enc]⟩ :: ⟨false, c + 1, 8, [[.nsl, .nsl, .nsl, .nsl, .nsl, .nsl, .int .i64 0, .int .i64 0]]⟩ :: (A ++ ⟨false, tq, 5, l.map TJob.encO⟩ :: (M1 ++ ⟨false, t, 9, ws.map TWorker.encO⟩ :: (M2 ++ ⟨false, c1, 8, [[bF.ref 3, bL.ref 4, bS.ref 4, .ref (A.length + 2) tq 5 l.length, .ref (A.length + (M1.length + 1) + 2) t 9 ws.length, bD.ref 11, .int .i64 bN, .int .i64 s.Now]]⟩ :: [])))).Sublist H') ?_ ?_
        · intro e H c' ⟨e1, e4, e6, e33, e34, e35, hnone, hH⟩
          simp [e35]
          exact hN _ _ _ _ h hH ⟨by simp [upd, e1], by simp [upd, e4], by simp [upd, e6], by simp [upd, e33], by simp [upd, e34], by simp [upd]; exact step64 (by have := hs.2.2.2.2.1; unfold mx; omega) h, fun j hj hji => by
            by_cases hji' : j < i
            · exact hno j hj hji'
            · have : j = i := by omega
              subst this
              have e : l[j] = y := (List.getElem?_eq_some_iff.1 gy).2
              rw [e, hnone]; rfl, rfl⟩
        intro K hK
        refine blk_cutS (seq_cutS (fun e' H' c' => e' 1 = .int .i64 k ∧ e' 4 = .ptr 1 (c + 1) 8 0 0 ∧ e' 6 = .ptr (A.length + (M1.length + (M2.length + 1) + 1) + 1 + 1) c1 8 0 0 ∧ e' 33 = .ref (A.length + 2) tq 5 l.length ∧ e' 34 = .int .i64 l.length ∧ e' 35 = .int .i64 i ∧ ∃ tb, e' 7 = .int .i64 i ∧ e' 8 = .ptr (A.length + (M1.length + (M2.length + 1 + 1) + 1) + 1 + 1) tb 5 0 0 ∧ H' = ⟨false, c, 8, [s.enc]⟩ :: ⟨false, c + 1, 8, [[.nsl, .nsl, .nsl, .nsl, .nsl, .nsl, .int .i64 0, .int .i64 0]]⟩ :: (A ++ ⟨false, tq, 5, l.map TJob.encO⟩ :: (M1 ++ ⟨false, t, 9, ws.map TWorker.encO⟩ :: (M2 ++ ⟨false, c1, 8, [[bF.ref 3, bL.ref 4, bS.ref 4, .ref (A.length + 2) tq 5 l.length, .ref (A.length + (M1.length + 1) + 2) t 9 ws.length, bD.ref 11, .int .i64 bN, .int .i64 s.Now]]⟩ :: [⟨false, tb, 5, [y.encO]⟩])))) ?_ ?_)
        rotate_left
        · intro K' hK'
          simp [e1, e4, e6, e33, e34, e35, putA, h]
          refine ⟨_, gy, ?_⟩
          simp [hyl, putA]
          exact hK' _ _ _ ⟨by simp [upd, e1], by simp [upd, e4], by simp [upd, e6], by simp [upd, e33], by simp [upd, e34], by simp [upd, e35], _, by simp [upd], by simp [upd], rfl⟩
        clear e1 e4 e6 e33 e34 e35
        intro e H c' ⟨e1, e4, e6, e33, e34, e35, tb, e7, e8, hH⟩
        subst hH
        refine seq_cutS (fun e' H' c' => e' 1 = .int .i64 k ∧ e' 4 = .ptr 1 (c + 1) 8 0 0 ∧ e' 6 = .ptr (A.length + (M1.length + (M2.length + 1) + 1) + 1 + 1) c1 8 0 0 ∧ e' 33 = .ref (A.length + 2) tq 5 l.length ∧ e' 34 = .int .i64 l.length ∧ e' 35 = .int .i64 i ∧ e' 7 = .int .i64 i ∧ e' 8 = .ptr (A.length + (M1.length + (M2.length + 1 + 1) + 1) + 1 + 1) tb 5 0 0 ∧ e' 9 = .str [] ∧ H' = ⟨false, c, 8, [s.enc]⟩ :: ⟨false, c + 1, 8, [[.nsl, .nsl, .nsl, .nsl, .nsl, .nsl, .int .i64 0, .int .i64 0]]⟩ :: (A ++ ⟨false, tq, 5, l.map TJob.encO⟩ :: (M1 ++ ⟨false, t, 9, ws.map TWorker.encO⟩ :: (M2 ++ ⟨false, c1, 8, [[bF.ref 3, bL.ref 4, bS.ref 4, .ref (A.length + 2) tq 5 l.length, .ref (A.length + (M1.length + 1) + 2) t 9 ws.length, bD.ref 11, .int .i64 bN, .int .i64 s.Now]]⟩ :: [⟨false, tb, 5, [y.encO]⟩])))) ?_ ?_
        rotate_left
        · intro K' hK'
          simp
          exact hK' _ _ _ ⟨by simp [upd, e1], by simp [upd, e4], by simp [upd, e6], by simp [upd, e33], by simp [upd, e34], by simp [upd, e35], by simp [upd, e7], by simp [upd, e8], by simp [upd], rfl⟩
        clear e1 e4 e6 e33 e34 e35 e7 e8
        intro e H c' ⟨e1, e4, e6, e33, e34, e35, e7, e8, e9, hH⟩
        subst hH
        refine seq_cutS (fun e' H' c' => e' 1 = .int .i64 k ∧ e' 4 = .ptr 1 (c + 1) 8 0 0 ∧ e' 6 = .ptr (A.length + (M1.length + (M2.length + 1) + 1) + 1 + 1) c1 8 0 0 ∧ e' 33 = .ref (A.length + 2) tq 5 l.length ∧ e' 34 = .int .i64 l.length ∧ e' 35 = .int .i64 i ∧ e' 7 = .int .i64 i ∧ e' 8 = .ptr (A.length + (M1.length + (M2.length + 1 + 1) + 1) + 1 + 1) tb 5 0 0 ∧ ∃ (bS' : SL TSession) (yj : TJob) (d : List UInt8) (X : List AObj), e' 9 = .str d ∧ pickJ s.Now (k : Int) s.Sessions.list y = some (yj, d, bS'.list) ∧ (bS' = bS ∨ X = bS'.wood 4 TSession.enc noInn) ∧ H' = ⟨false, c, 8, [s.enc]⟩ :: ⟨false, c + 1, 8, [[.nsl, .nsl, .nsl, .nsl, .nsl, .nsl, .int .i64 0, .int .i64 0]]⟩ :: (A ++ ⟨false, tq, 5, l.map TJob.encO⟩ :: (M1 ++ ⟨false, t, 9, ws.map TWorker.encO⟩ :: (M2 ++ ⟨false, c1, 8, [[bF.ref 3, bL.ref 4, bS'.ref 4, .ref (A.length + 2) tq 5 l.length, .ref (A.length + (M1.length + 1) + 2) t 9 ws.length, bD.ref 11, .int .i64 bN, .int .i64 s.Now]]⟩ :: ⟨false, tb, 5, [yj.encO]⟩ :: X)))) ?_ ?_
        rotate_left
        · intro K' hK'
          by_cases hse : y.Session = []
          · have hy4 : ∀ K : AV → Prop, getW y.encO 4 K = K (.str y.Session) := fun K => by simp [TJob.encO]
            have hpk : pickJ s.Now (k : Int) s.Sessions.list y = some (y, [], bS.list) := by unfold pickJ; rw [if_pos hse, qS]
            simp [e1, e4, e6, e33, e34, e35, e7, e8, putA, h, hy4, hse]
            exact hK' _ _ _ ⟨by simp [upd, e1], by simp [upd, e4], by simp [upd, e6], by simp [upd, e33], by simp [upd, e34], by simp [upd, e35], by simp [upd, e7], by simp [upd, e8], bS, y, [], [], by simp [upd, e9], hpk, .inl rfl, rfl⟩
          · have hy4 : ∀ K : AV → Prop, getW y.encO 4 K = K (.str y.Session) := fun K => by simp [TJob.encO]
            simp [e1, e4, e6, e33, e34, e35, e7, e8, putA, h, hy4, hse, hw2]
            refine call_new (impl_openO (s := bS) (id := y.Session) (who := (k : Int) + 1) (now := s.Now) ?_ ?_ ?_ _) (.cons (view_flat (fun o ho => by simp [hA, ho]) TSession.flat.cells) (Views.refl _ _)) fun r O c3 hc3 ⟨x, ls, hr, hO, hq⟩ _ _ => ?_
            · have := hso
              unfold okSessionS at this ⊢
              rw [qS]; exact this
            · have gy2 : (s.Queue.list[i]?).map TJob.con = some y.con := by
                have := congrArg (fun m : List TJob => m[i]?) qQ
                simp only [List.getElem?_map, gy, Option.map_some] at this
                exact this.symm
              cases gz : s.Queue.list[i]? with
              | none => rw [gz] at gy2; cases gy2
              | some z =>
                rw [gz] at gy2
                simp only [Option.map_some, Option.some.injEq] at gy2
                have e : z.Session = y.Session := by have := congrArg (fun t : TJob => t.Session) gy2; exact this
                rw [← e]; exact hsj z (List.mem_of_getElem? gz)
            · rw [qS]; exact hs.2.2.2.1
            subst hr; subst hO
            obtain ⟨hxl, hls⟩ := hq
            subst hls
            rw [qS] at hxl
            rw [qS]
            refine ⟨_, .refl _, free_tup (by simp [free_ref, free_str, free_int]) _, fun o ho => flat_free TSession.flat _ _ o ho _, ?_⟩
            have hcd := openS_code y.Session ((k : Int) + 1) s.Now s.Sessions.list
            have hpj : pickJ s.Now (k : Int) s.Sessions.list y = if (openS y.Session ((k : Int) + 1) s.Now s.Sessions.list).2.2 = 0 then some (y, (openS y.Session ((k : Int) + 1) s.Now s.Sessions.list).2.1, (openS y.Session ((k : Int) + 1) s.Now s.Sessions.list).1) else if (openS y.Session ((k : Int) + 1) s.Now s.Sessions.list).2.2 = 3 then some (⟨y.Id, y.Request, []⟩, [], s.Sessions.list) else none := by unfold pickJ; rw [if_neg hse]
            generalize openS y.Session ((k : Int) + 1) s.Now s.Sessions.list = ob at hcd hpj hxl
            by_cases h0 : ob.2.2 = 0
            · rw [if_pos h0] at hpj
              simp [e1, e4, e6, e33, e34, e35, e7, e8, e9, putA, h0]
              exact hK' _ _ _ ⟨by simp [upd, e1], by simp [upd, e4], by simp [upd, e6], by simp [upd, e33], by simp [upd, e34], by simp [upd, e35], by simp [upd, e7], by simp [upd, e8], x, y, ob.2.1, x.wood 4 TSession.enc noInn, by simp [upd], by rw [hpj, hxl], .inr rfl, rfl⟩
            · rw [if_neg h0] at hpj
              by_cases h3 : ob.2.2 = 3
              · rw [if_pos h3] at hpj
                simp [e1, e4, e6, e33, e34, e35, e7, e8, e9, putA, h0, h3]
                exact hK' _ _ _ ⟨by simp [upd, e1], by simp [upd, e4], by simp [upd, e6], by simp [upd, e33], by simp [upd, e34], by simp [upd, e35], by simp [upd, e7], by simp [upd, e8], bS, ⟨y.Id, y.Request, []⟩, [], x.wood 4 TSession.enc noInn, by simp [upd, e9], by rw [hpj, qS], .inl rfl, rfl⟩
              · rw [if_neg h3] at hpj
                simp [e1, e4, e6, e33, e34, e35, e7, e8, e9, putA, h0, h3]
                exact hK _ _ _ ⟨by simp [upd, e1], by simp [upd, e4], by simp [upd, e6], by simp [upd, e33], by simp [upd, e34], by simp [upd, e35], hpj, List.Sublist.cons_cons _ (List.Sublist.cons_cons _ ((List.Sublist.refl A).append (List.Sublist.cons_cons _ ((List.Sublist.refl M1).append (List.Sublist.cons_cons _ ((List.Sublist.refl M2).append (List.Sublist.cons_cons _ (List.nil_sublist _))))))))⟩
        clear e1 e4 e6 e33 e34 e35 e7 e8 e9 hK hN
        intro e H c' ⟨e1, e4, e6, e33, e34, e35, e7, e8, bS', yj, d, X, e9, hpk, hX, hH⟩
        subst hH
        have hlm : l.length ≤ 1048576 := by rw [qQl]; exact hs.2.2.2.2.1
        have hw3 : IntKind.i64.wrap ((i : Int) + 1) = ((i + 1 : Nat) : Int) := by rw [wrap64 (by omega) (by omega)]; rfl
        simp [e1, e4, e6, e33, e34, e35, e7, e8, e9, putA, hw3, -Int.natCast_add]
        refine call_at (B := ⟨false, c, 8, [s.enc]⟩ :: ⟨false, c + 1, 8, [[.nsl, .nsl, .nsl, .nsl, .nsl, .nsl, .int .i64 0, .int .i64 0]]⟩ :: A) (delJob_con (t := tq) (n := l.length) (i := i) (rows := l.map TJob.encO) (by simp) h) (.cons .name (Views.refl _ _)) fun r O c3 hc3 ⟨hr, hO⟩ => ?_
        subst hr; subst hO
        refine ⟨_, .ref (A.length + 2) tq 5 (l.length - 1), rfl, rfl, .name, .ref, ?_, ?_⟩
        · refine avRows_free fun row hr a ha => ?_
          obtain ⟨z, hz, rfl⟩ := List.mem_map.1 ((skip_sub (l.map TJob.encO) i).subset hr)
          exact TJob.freeO z a ha
        have hk2 : k < ws.length := by omega
        have gw : ws[k]? = some ws[k] := List.getElem?_eq_getElem hk2
        have hw8 : ∀ (x : TWorker) (K : AV → Prop), getW x.encO 8 K = K (.int .i64 x.Served) := fun x K => by simp [TWorker.encO]
        have hwl : ∀ x : TWorker, x.encO.length = 9 := fun x => rfl
        have hdr : ∀ x : TWorker, List.drop 9 x.encO = [] := fun _ => rfl
        have hbF : bF.list.length ≤ 1048576 := by
          have qF : bF.list.map TFile.con = s.Files.list.map TFile.con := congrArg (fun t : TServer => t.Files.list) q0
          have : bF.list.length = s.Files.list.length := by simpa using congrArg List.length qF
          rw [this]; exact hs.1
        simp [e1, e4, e6, e33, e34, e35, e7, e8, e9, putA, hk2, hyl, getW_of gw, hw8]
        refine call_new (cloneFO (s := bF) hbF _) (.cons (view_flat (fun o ho => by simp [hA, ho]) TFile.flat.cells) .nil) fun r O c4 hc4 ⟨xF, hr, hO, hxF⟩ _ _ => ?_
        subst hr; subst hO
        refine ⟨_, .refl _, free_ref _ _ _, fun o ho => flat_free TFile.flat _ _ o ho _, ?_⟩
        simp [e1, e4, e6, e33, e34, e35, e7, e8, e9, putA, hk2, hyl, getW_of gw, hw8, hwl, hdr]
        obtain ⟨bz, hbz⟩ : ∃ bz : TWorker, bz = ⟨1, yj, d, xF, (ws[k]'hk2).Served⟩ := ⟨_, rfl⟩
        have hyr : yj.Request = y.Request := pick_req hpk
        have hql : (l.take i ++ l.drop (i + 1)).length = l.length - 1 := by simp; omega
        obtain ⟨G0, hG0⟩ : ∃ G0 : List AObj, ∀ p, X.countP p + (bS.wood 4 TSession.enc noInn).countP p = (bS'.wood 4 TSession.enc noInn).countP p + G0.countP p := by
          rcases hX with hX | hX
          · subst hX; exact ⟨X, fun p => by omega⟩
          · subst hX; exact ⟨bS.wood 4 TSession.enc noInn, fun p => rfl⟩
        obtain ⟨z, gz, hzy⟩ : ∃ z, s.Queue.list[i]? = some z ∧ z.con = y.con := by
          have gy2 : (s.Queue.list[i]?).map TJob.con = some y.con := by
            have := congrArg (fun m : List TJob => m[i]?) qQ
            simp only [List.getElem?_map, gy, Option.map_some] at this
            exact this.symm
          cases gz : s.Queue.list[i]? with
          | none => rw [gz] at gy2; cases gy2
          | some z => rw [gz] at gy2; exact ⟨z, rfl, by simpa using gy2⟩
        obtain ⟨zj, hpz, hzj⟩ : ∃ zj, pickJ s.Now (k : Int) s.Sessions.list z = some (zj, d, bS'.list) ∧ zj.con = yj.con := by
          have hm := pickJ_map s.Now (k : Int) s.Sessions.list hzy
          rw [hpk] at hm
          cases hq : pickJ s.Now (k : Int) s.Sessions.list z with
          | none => rw [hq] at hm; cases hm
          | some q =>
            rw [hq] at hm
            obtain ⟨q1, q2, q3⟩ := q
            simp only [Option.map_some, Option.some.injEq, Prod.mk.injEq] at hm
            obtain ⟨hm1, rfl, rfl⟩ := hm
            exact ⟨q1, rfl, hm1⟩
        have hI2 : staI s (k : Int) = i := staI_at gz (fun j hj hji => by rw [← hj1 j (by omega)]; exact hno j (by omega) hji) (by rw [hpz]; rfl)
        have hJ2 : staJ s (k : Int) = some (zj, d, bS'.list) := by unfold staJ; rw [hI2, gz]; exact hpz
        have hso2 : staOk s (k : Int) = true := by unfold staOk; rw [hok0, hJ2]; rfl
        have hst2 : start s (k : Int) = { s with Sessions := .mk 0 bS'.list, Queue := .mk 0 (s.Queue.list.take i ++ s.Queue.list.drop (i + 1)), Workers := .mk 0 (s.Workers.list.set k (busyW s.Workers.list[k] zj d s.Files.list)) } := by
          unfold start
          rw [hok0, hJ2, Int.toNat_natCast, hg, hI2]
        refine fin_all ⟨⟨bF, bL, bS', .mk tq (l.take i ++ l.drop (i + 1)), .mk t (ws.set k bz), bD, bN, s.Now⟩, [bF.ref 3, bL.ref 4, bS'.ref 4, .ref (A.length + 2) tq 5 (l.length - 1), .ref (A.length + (M1.length + 1) + 2) t 9 ws.length, bD.ref 11, .int .i64 bN, .int .i64 s.Now], [_, _], A ++ (⟨false, tq, 5, skipRows (l.map TJob.encO) i⟩ :: (M1 ++ (⟨false, t, 9, (ws.map TWorker.encO).set k bz.encO⟩ :: (M2 ++ (⟨false, c1, 8, [[bF.ref 3, bL.ref 4, bS'.ref 4, .ref (A.length + 2) tq 5 (l.length - 1), .ref (A.length + (M1.length + 1) + 2) t 9 ws.length, bD.ref 11, .int .i64 bN, .int .i64 s.Now]]⟩ :: (⟨false, tb, 5, [yj.encO]⟩ :: (X ++ xF.wood 3 TFile.enc noInn))))))), ⟨false, c1, 8, [[bF.ref 3, bL.ref 4, bS'.ref 4, .ref (A.length + 2) tq 5 (l.length - 1), .ref (A.length + (M1.length + 1) + 2) t 9 ws.length, bD.ref 11, .int .i64 bN, .int .i64 s.Now]]⟩ :: ⟨false, tb, 5, [yj.encO]⟩ :: (G0 ++ (ws[k]'hk2).inn), ?_, ?_, by subst hbz; rfl, perm_cnt fun p => ?_, ?_⟩
        · rw [hso2]
        · refine .cons (.refl _) (.cons (.refl _) (.cons (.refl _) (.cons ?_ (.cons ?_ (.cons (.refl _) (.cons (.refl _) (.cons (.refl _) .nil)))))))
          · show View [] _ (.ref 0 tq 5 (l.take i ++ l.drop (i + 1)).length)
            rw [hql]; exact .name
          · show View [] _ (.ref 0 t 9 (ws.set k bz).length)
            rw [List.length_set]; exact .name
        · have k1 := skip_cnt (inn := TJob.inn) gy p
          have k2 := setW_cnt (inn := TWorker.inn) gw bz p
          have k3 := hG0 p
          have k4 : (bz.inn).countP p = (TJob.inn y).countP p + (xF.wood 3 TFile.enc noInn).countP p := by
            rw [hbz]
            simp only [TWorker.inn, TJob.inn, hyr, List.countP_append]
            omega
          have w1 : (SL.mk tq (l.take i ++ l.drop (i + 1))).wood 5 TJob.encO TJob.inn = ⟨false, tq, 5, skipRows (l.map TJob.encO) i⟩ :: (l.take i ++ l.drop (i + 1)).flatMap TJob.inn := by
            unfold skipRows; rw [← List.map_take, ← List.map_drop, ← List.map_append]; rfl
          have w2 : (SL.mk t (ws.set k bz)).wood 9 TWorker.encO TWorker.inn = ⟨false, t, 9, (ws.map TWorker.encO).set k bz.encO⟩ :: (ws.set k bz).flatMap TWorker.inn := by
            rw [← List.map_set]; rfl
          simp only [TServer.inn, w1, w2, hA, hM1, hM2, List.append_eq, List.countP_append, List.countP_cons, List.countP_nil] at k1 k2 k3 k4 ⊢
          omega
        · rw [hst2]
          have cF : bF.con TFile.con = s.Files.con TFile.con := congrArg TServer.Files q0
          have cL : bL.con TLine.con = s.Lines.con TLine.con := congrArg TServer.Lines q0
          have cD : bD.con TAnswer.con = s.Done.con TAnswer.con := congrArg TServer.Done q0
          have cN : bN = s.Next := congrArg TServer.Next q0
          have qF : bF.list.map TFile.con = s.Files.list.map TFile.con := congrArg (fun t : TServer => t.Files.list) q0
          have hsv : (ws[k]'hk2).Served = (s.Workers.list[k]).Served := by
            have := congrArg (fun m : List TWorker => m[k]?) qW
            simp only [List.getElem?_map, gw, hg, Option.map_some, Option.some.injEq] at this
            have := congrArg (fun t : TWorker => t.Served) this
            exact this
          have cB : bz.con = (busyW s.Workers.list[k] zj d s.Files.list).con := by
            rw [hbz]
            simp only [busyW, TWorker.con, SL.con, SL.list_mk, hxF, qF, hsv, hzj]
          simp only [TServer.con, SL.con, SL.list_mk, List.map_append, List.map_take, List.map_drop, List.map_set, qQ, qW, cB] at cF cL cD ⊢
          rw [cF, cL, cD, cN]
      · have hie : i = l.length := by omega
        subst hie
        have hno' : staOk s (k : Int) = false := by
          unfold staOk
          rw [staJ_none (fun j hj => by rw [← hj1 j (by omega)]; exact hno j (by omega) (by omega))]
          simp
        simp [e1, e4, e6, e33, e34, e35, putA]
        exact fin_all (⟨⟨bF, bL, bS, .mk tq l, .mk t ws, bD, bN, s.Now⟩, _, [_, _], _, [_], by rw [hno'], .cons (.refl _) (.cons (.refl _) (.cons (.refl _) (.cons .name (.cons .name (.cons (.refl _) (.cons (.refl _) (.cons (.refl _) .nil))))))), rfl, by rw [hI]; simp only [List.append_assoc, List.cons_append]; exact List.Perm.refl _, by rw [start_no hno']; exact q0⟩)
theorem impl_staO {s : TServer} {w : Int} (hs : SmSrv s) (hso : okSessionS s.Sessions) (hsj : ∀ j, j ∈ s.Queue.list → j.Session.length ≤ mx) (hw : -9223372036854775808 ≤ w ∧ w ≤ 9223372036854775807) (c : Nat) : Con Tryz.prog 13 [.agg s.enc, .int .i64 w] [] c fun r O _ => StaQ s w r O := con_staK (impl_staK hs hso hsj hw c)
end A
end Go.Proofs.YtfcimcoanlgldaaGreat
