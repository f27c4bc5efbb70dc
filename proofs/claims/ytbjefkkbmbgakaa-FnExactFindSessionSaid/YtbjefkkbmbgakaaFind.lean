/-
  FindSession of the reference and of the program are the same plain function of the list and the name, and the law answers true. No condition.
-/
import Derived.Test.YtbjefkkbmbgakaaTypes
import Derived.Test.YtbjefkkbmbgakaaOwn
namespace Go.Proofs.Ytbjefkkbmbgakaa
namespace A
set_option linter.unusedVariables false
set_option linter.unusedSimpArgs false
set_option maxRecDepth 100000

def findS (id : List UInt8) : List TSession → Nat → Int
  | [], _ => -1
  | x :: l, i => if x.Id = id then i else findS id l (i + 1)

theorem findS_hit {id : List UInt8} {l : List TSession} {i : Nat} (h : i < l.length) (e : l[i].Id = id) : findS id (l.drop i) i = i := by
  rw [List.drop_eq_getElem_cons h]; simp [findS, e]
theorem findS_miss {id : List UInt8} {l : List TSession} {i : Nat} (h : i < l.length) (e : l[i].Id ≠ id) : findS id (l.drop i) i = findS id (l.drop (i + 1)) (i + 1) := by
  rw [List.drop_eq_getElem_cons h]; simp [findS, e]
theorem findS_con (id : List UInt8) : ∀ (l : List TSession) (i : Nat), findS id (l.map TSession.con) i = findS id l i
  | [], _ => rfl
  | x :: l, i => by
    have : x.con.Id = x.Id := rfl
    simp [findS, this, findS_con id l]

theorem spec_find {s : SL TSession} {id : List UInt8} (hn : s.list.length ≤ mx) : Fnc Try.prog 12 [s.av 4 TSession.enc, .str id] (.int .i64 (findS id s.list 0)) := by
  refine fn_of c12 (by simp [F12]) fun c => ?_
  unfold F12
  simp
  refine loop_drop s.list.length (fun i e H c' => e 0 = s.av 4 TSession.enc ∧ e 1 = .str id ∧ e 5 = .int .i64 i ∧ findS id (s.list.drop i) i = findS id s.list 0 ∧ H = []) ⟨rfl, rfl, rfl, by simp, rfl⟩ ?_
  intro i e H c hi ⟨e0, e1, e5, hall, hH⟩ N hN
  subst hH
  simp [e0, e1, e5]
  refine ⟨fun h => ⟨s.list[i], List.getElem?_eq_getElem h, ?_⟩, fun h => ?_⟩
  · simp [e0, e1, e5]
    by_cases hq : s.list[i].Id = id
    · simp [e0, e1, e5, hq]
      exact fin_plain ⟨by rw [← hall, findS_hit h hq], rfl⟩
    · simp [e0, e1, e5, hq]
      exact hN _ _ _ _ h (List.nil_sublist _) ⟨by simp [upd, e0], by simp [upd, e1], by simp [upd]; exact step64 hn h, by rw [← hall, findS_miss h hq], rfl⟩
  · refine fin_plain ⟨?_, rfl⟩
    have h1 : i = s.list.length := by omega
    rw [h1, List.drop_length] at hall
    rw [← hall]; rfl

theorem pred_fn (x : TSession) (id : List UInt8) : Fnc Try.prog 38 [.agg x.enc, .cpt [.str id] 0] (.bool (decide (x.Id = id))) := by
  refine fn_of c38 (by simp [F38]) fun c => ?_
  unfold F38
  simp
  exact fin_plain ⟨rfl, rfl⟩

theorem index_con {s : SL TSession} {id : List UInt8} (hn : s.list.length ≤ mx) (t c : Nat) :
    Con Try.prog 37 [s.av 4 TSession.enc, .fn 38 [.ptr 0 t 1 0 0]] [⟨false, t, 1, [[.str id]]⟩] c fun r H' _ => r = .int .i64 (findS id s.list 0) ∧ H' = [⟨false, t, 1, [[.str id]]⟩] := by
  refine con_of c37 (by simp [F37]) ?_
  unfold F37
  simp
  refine loop_drop s.list.length (fun i e H c' => e 0 = s.av 4 TSession.enc ∧ e 1 = .fn 38 [.ptr 0 t 1 0 0] ∧ e 7 = .int .i64 s.list.length ∧ e 8 = .int .i64 i ∧ findS id (s.list.drop i) i = findS id s.list 0 ∧ H = [⟨false, t, 1, [[.str id]]⟩]) ⟨rfl, rfl, rfl, rfl, by simp, rfl⟩ ?_
  intro i e H c hi ⟨e0, e1, e7, e8, hall, hH⟩ N hN
  subst hH
  simp [e0, e1, e7, e8]
  refine ⟨fun h => ⟨s.list[i], List.getElem?_eq_getElem h, ?_⟩, fun h => ?_⟩
  · simp [e0, e1, e7, e8]
    refine ⟨by kernel_rfl, call_fn (pred_fn s.list[i] id) (.cons (.refl _) (.cons (view_ptr (rows := [[.str id]]) (by simp) rfl (by simp)) .nil)) .bool fun _ _ => ?_⟩
    by_cases hq : s.list[i].Id = id
    · simp [e0, e1, e7, e8, hq]
      exact fin_all ⟨by rw [← hall, findS_hit h hq], rfl⟩
    · simp [e0, e1, e7, e8, hq]
      exact hN _ _ _ _ h (List.Sublist.refl _) ⟨by simp [upd, e0], by simp [upd, e1], by simp [upd, e7], by simp [upd]; exact step64 hn h, by rw [← hall, findS_miss h hq], rfl⟩
  · refine fin_all ⟨?_, rfl⟩
    have h1 : i = s.list.length := by omega
    rw [h1, List.drop_length] at hall
    rw [← hall]; rfl

theorem impl_find {s : SL TSession} {id : List UInt8} (hn : s.list.length ≤ mx) : Fnc Try.prog 14 [s.av 4 TSession.enc, .str id] (.int .i64 (findS id s.list 0)) := by
  refine fn_of c14 (by simp [F14]) fun c => ?_
  unfold F14
  simp
  refine call_con (index_con hn c _) fun r H' c' hc hq _ _ => ?_
  obtain ⟨rfl, rfl⟩ := hq
  refine ⟨.int, ?_, ?_⟩
  · intro o ho
    simp at ho; subst ho
    exact avRows_of fun row hr a ha => by simp at hr; subst hr; simp at ha; subst ha; exact .str
  · simp
    exact fin_plain ⟨rfl, rfl⟩

theorem law_find {s : SL TSession} {id : List UInt8} (hs : okSessionS s) (hid : id.length ≤ mx) (c : Nat) : Con Try.prog 4 [s.av 4 TSession.enc, .str id] [] c fun r H' _ => r = .bool true ∧ H' = [] := by
  refine con_of c4 (by simp [F4]) ?_
  unfold F4
  simp
  refine ⟨fun _ => fin_plain ⟨rfl, rfl⟩, fun _ => ?_⟩
  refine call_fn0 (szSessionS_fn hs ⟨by omega, by omega⟩) .int fun _ _ => ?_
  simp
  refine ⟨fun _ => fin_plain ⟨rfl, rfl⟩, fun h => ?_⟩
  have hz : szSessionS s ≤ 1048576 := by have := (szOf_ge h).2; omega
  have hsz : ∀ b : SL TSession, b.list.map TSession.con = s.list.map TSession.con → szSessionS b ≤ 1048576 := fun b hb => by rw [szSessionS_con hb]; exact hz
  have hmx : ∀ b : SL TSession, b.list.map TSession.con = s.list.map TSession.con → b.list.length ≤ mx := fun b hb => by have := hsz b hb; unfold szSessionS at this; unfold mx; omega
  have hf : ∀ b : SL TSession, b.list.map TSession.con = s.list.map TSession.con → findS id b.list 0 = findS id s.list 0 := fun b hb => by rw [← findS_con, hb, findS_con]
  refine call_tree0 (toSessionS_fn hz) fun r1 _ _ ⟨b1, e1, q1⟩ _ => ?_
  subst e1
  simp
  refine call_fn0 (spec_find (hmx _ q1)) .int fun _ _ => ?_
  simp
  refine call_tree0 (toSessionS_fn hz) fun r2 _ _ ⟨b2, e2, q2⟩ _ => ?_
  subst e2
  simp
  refine call_fn0 (impl_find (hmx _ q2)) .int fun _ _ => ?_
  simp [hf _ q1, hf _ q2]
  refine call_tree0 (toSessionS_fn hz) fun r3 _ _ ⟨b3, e3, q3⟩ _ => ?_
  subst e3
  simp
  refine call_fn0 (eqSessionS_fn (hsz _ q2) (q2.trans q3.symm)) .bool fun _ _ => ?_
  simp
  exact fin_plain ⟨rfl, rfl⟩
end A
end Go.Proofs.Ytbjefkkbmbgakaa
