/-
  FindSession of the reference and of the program are the same plain function of the list and the name. No condition.
-/
import Derived.Test.YtgiiipbpadgcgaaTSess
import Derived.Test.YtgiiipbpadgcgaaBase
namespace Go.Proofs.Ytgiiipbpadgcgaa
namespace A
set_option linter.unusedVariables false
set_option linter.unusedSimpArgs false
set_option maxRecDepth 100000

def findS (id : List UInt8) : List TSession → Nat → Int
  | [], _ => -1
  | x :: l, i => if x.Id = id then i else findS id l (i + 1)

theorem findS_hit {id : List UInt8} {l : List TSession} {i : Nat} (h : i < l.length) (e : l[i].Id = id) : findS id (l.drop i) i = i := by
  rw [List.drop_eq_getElem_cons h]; simp [findS, e]
theorem findS_miss {id : List UInt8} {l : List TSession} {i : Nat} (h : i < l.length) (e : l[i].Id ≠ id) : findS id (l.drop i) i = findS id (l.drop (i + 1)) (i + 1) := by
  rw [List.drop_eq_getElem_cons h]; simp [findS, e]
theorem findS_con (id : List UInt8) : ∀ (l : List TSession) (i : Nat), findS id (l.map TSession.con) i = findS id l i
  | [], _ => rfl
  | x :: l, i => by
    have : x.con.Id = x.Id := rfl
    simp [findS, this, findS_con id l]

theorem spec_find {s : SL TSession} {id : List UInt8} (hn : s.list.length ≤ mx) : Fnc Try.prog 79 [s.av 4 TSession.enc, .str id] (.int .i64 (findS id s.list 0)) := by
  refine fn_of c79 (by simp [F79]) fun c => ?_
  unfold F79
  simp
  refine loop_drop s.list.length (fun i e H c' => e 0 = s.av 4 TSession.enc ∧ e 1 = .str id ∧ e 5 = .int .i64 i ∧ findS id (s.list.drop i) i = findS id s.list 0 ∧ H = []) ⟨rfl, rfl, rfl, by simp, rfl⟩ ?_
  intro i e H c hi ⟨e0, e1, e5, hall, hH⟩ N hN
  subst hH
  simp [e0, e1, e5]
  refine ⟨fun h => ⟨s.list[i], List.getElem?_eq_getElem h, ?_⟩, fun h => ?_⟩
  · simp [e0, e1, e5]
    by_cases hq : s.list[i].Id = id
    · simp [e0, e1, e5, hq]
      exact fin_plain ⟨by rw [← hall, findS_hit h hq], rfl⟩
    · simp [e0, e1, e5, hq]
      exact hN _ _ _ _ h (List.nil_sublist _) ⟨by simp [upd, e0], by simp [upd, e1], by simp [upd]; exact step64 hn h, by rw [← hall, findS_miss h hq], rfl⟩
  · refine fin_plain ⟨?_, rfl⟩
    have h1 : i = s.list.length := by omega
    rw [h1, List.drop_length] at hall
    rw [← hall]; rfl

theorem pred_fn (x : TSession) (id : List UInt8) : Fnc Try.prog 107 [.agg x.enc, .cpt [.str id] 0] (.bool (decide (x.Id = id))) := by
  refine fn_of c107 (by simp [F107]) fun c => ?_
  unfold F107
  simp
  exact fin_plain ⟨rfl, rfl⟩

theorem index_con {s : SL TSession} {id : List UInt8} (hn : s.list.length ≤ mx) (t c : Nat) :
    Con Try.prog 106 [s.av 4 TSession.enc, .fn 107 [.ptr 0 t 1 0 0]] [⟨false, t, 1, [[.str id]]⟩] c fun r H' _ => r = .int .i64 (findS id s.list 0) ∧ H' = [⟨false, t, 1, [[.str id]]⟩] := by
  refine con_of c106 (by simp [F106]) ?_
  unfold F106
  simp
  refine loop_drop s.list.length (fun i e H c' => e 0 = s.av 4 TSession.enc ∧ e 1 = .fn 107 [.ptr 0 t 1 0 0] ∧ e 7 = .int .i64 s.list.length ∧ e 8 = .int .i64 i ∧ findS id (s.list.drop i) i = findS id s.list 0 ∧ H = [⟨false, t, 1, [[.str id]]⟩]) ⟨rfl, rfl, rfl, rfl, by simp, rfl⟩ ?_
  intro i e H c hi ⟨e0, e1, e7, e8, hall, hH⟩ N hN
  subst hH
  simp [e0, e1, e7, e8]
  refine ⟨fun h => ⟨s.list[i], List.getElem?_eq_getElem h, ?_⟩, fun h => ?_⟩
  · simp [e0, e1, e7, e8]
    refine ⟨by kernel_rfl, call_fn (pred_fn s.list[i] id) (.cons (.refl _) (.cons (view_ptr (rows := [[.str id]]) (by simp) rfl (by simp)) .nil)) .bool fun _ _ => ?_⟩
    by_cases hq : s.list[i].Id = id
    · simp [e0, e1, e7, e8, hq]
      exact fin_all ⟨by rw [← hall, findS_hit h hq], rfl⟩
    · simp [e0, e1, e7, e8, hq]
      exact hN _ _ _ _ h (List.Sublist.refl _) ⟨by simp [upd, e0], by simp [upd, e1], by simp [upd, e7], by simp [upd]; exact step64 hn h, by rw [← hall, findS_miss h hq], rfl⟩
  · refine fin_all ⟨?_, rfl⟩
    have h1 : i = s.list.length := by omega
    rw [h1, List.drop_length] at hall
    rw [← hall]; rfl

theorem impl_find {s : SL TSession} {id : List UInt8} (hn : s.list.length ≤ mx) : Fnc Try.prog 58 [s.av 4 TSession.enc, .str id] (.int .i64 (findS id s.list 0)) := by
  refine fn_of c58 (by simp [F58]) fun c => ?_
  unfold F58
  simp
  refine call_con (index_con hn c _) fun r H' c' hc hq _ _ => ?_
  obtain ⟨rfl, rfl⟩ := hq
  refine ⟨.int, ?_, ?_⟩
  · intro o ho
    simp at ho; subst ho
    exact avRows_of fun row hr a ha => by simp at hr; subst hr; simp at ha; subst ha; exact .str
  · simp
    exact fin_plain ⟨rfl, rfl⟩

end A
end Go.Proofs.Ytgiiipbpadgcgaa
