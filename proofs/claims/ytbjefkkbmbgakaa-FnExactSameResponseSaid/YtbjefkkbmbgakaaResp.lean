/-
  SameResponse of the reference and of the program are the same plain function of the two responses, and the law answers true. No condition.
-/
import Derived.Test.YtbjefkkbmbgakaaTypes
import Derived.Test.YtbjefkkbmbgakaaGive
namespace Go.Proofs.Ytbjefkkbmbgakaa
namespace A
set_option linter.unusedVariables false
set_option linter.unusedSimpArgs false
set_option maxRecDepth 100000

def hdEq (a b : THeader) : Bool := decide (a.Name = b.Name) && decide (a.Value = b.Value)
theorem hdEq_iff {a b : THeader} : hdEq a b = true ↔ a = b := by
  cases a; cases b; simp [hdEq]
instance : DecidableEq THeader := fun a b => decidable_of_iff (hdEq a b = true) hdEq_iff
@[simp high] theorem beqW_hd (neg : Bool) (a b : THeader) (K : AV → Prop) : beqW' neg [1, 1] (.agg a.enc) (.agg b.enc) K = K (.bool (hdEq a b != neg)) := by
  rw [beqW'_agg]
  unfold hdEq
  by_cases h1 : a.Name = b.Name <;> by_cases h2 : a.Value = b.Value <;> simp [THeader.enc, fitsK, eqCells, keyEq, dec_beq, h1, h2]

def same (a b : TResponse) : Bool := decide (a.Code = b.Code) && decide (a.Body = b.Body) && decide (a.Headers.list = b.Headers.list)

theorem take_step {α : Type} {l m : List α} {i : Nat} (h : l.take i = m.take i) (h1 : i < l.length) (h2 : i < m.length) (e : l[i] = m[i]) : l.take (i + 1) = m.take (i + 1) := by
  rw [List.take_succ_eq_append_getElem h1, List.take_succ_eq_append_getElem h2, h, e]

theorem equal_fn {s t : SL THeader} (hn : s.list.length ≤ mx) : Fnc Try.prog 49 [s.av 2 THeader.enc, t.av 2 THeader.enc] (.bool (decide (s.list = t.list))) := by
  refine fn_of c49 (by simp [F49]) fun c => ?_
  unfold F49
  simp
  refine ⟨fun hl => fin_plain ⟨by simp; intro h; rw [h] at hl; exact hl rfl, rfl⟩, fun hl => ?_⟩
  have hl : s.list.length = t.list.length := by omega
  simp [hl]
  refine loop_drop s.list.length (fun i e H c' => e 0 = s.av 2 THeader.enc ∧ e 1 = t.av 2 THeader.enc ∧ e 12 = .int .i64 t.list.length ∧ e 13 = .int .i64 i ∧ s.list.take i = t.list.take i ∧ H = []) ⟨rfl, rfl, rfl, rfl, by simp, rfl⟩ ?_
  intro i e H c hi ⟨e0, e1, e12, e13, hall, hH⟩ N hN
  subst hH
  simp [e0, e1, e12, e13]
  refine ⟨fun h => ?_, fun h => ?_⟩
  · have hs : i < s.list.length := by omega
    refine ⟨s.list[i], List.getElem?_eq_getElem hs, ?_⟩
    simp [e0, e1, e12, e13]
    refine ⟨t.list[i], List.getElem?_eq_getElem h, ?_⟩
    simp [e0, e1, e12, e13]
    cases hq : hdEq s.list[i] t.list[i]
    · simp [e0, e1, e12, e13]
      refine fin_plain ⟨?_, rfl⟩
      simp
      intro he
      have hx : s.list[i] = t.list[i] := by simp [he]
      rw [hdEq_iff.2 hx] at hq
      cases hq
    · simp [e0, e1, e12, e13]
      exact hN _ _ _ _ hs (List.nil_sublist _) ⟨by simp [upd, e0], by simp [upd, e1], by simp [upd, e12], by simp [upd]; exact step64 hn hs, take_step hall hs h (hdEq_iff.1 hq), rfl⟩
  · refine fin_plain ⟨?_, rfl⟩
    have h1 : i = s.list.length := by omega
    rw [h1, List.take_length, hl, List.take_length] at hall
    simp [hall]

theorem spec_same {a b : TResponse} (hn : a.Headers.list.length ≤ mx) : Fnc Try.prog 26 [.agg a.enc, .agg b.enc] (.bool (same a b)) := by
  refine fn_of c26 (by simp [F26]) fun c => ?_
  unfold F26
  simp
  by_cases h1 : a.Code = b.Code
  rotate_left
  · simp [h1]; exact fin_plain ⟨by simp [same, h1], rfl⟩
  simp [h1]
  by_cases h2 : a.Body = b.Body
  rotate_left
  · simp [h1, h2]; exact fin_plain ⟨by simp [same, h2], rfl⟩
  simp [h1, h2]
  refine ⟨fun hl => fin_plain ⟨by simp [same]; intro _ _ h; rw [h] at hl; exact hl rfl, rfl⟩, fun hl => ?_⟩
  have hl : a.Headers.list.length = b.Headers.list.length := by omega
  simp [h1, h2, hl]
  refine loop_drop a.Headers.list.length (fun i e H c' => e 2 = .ptr 0 c 3 0 0 ∧ e 3 = .ptr 1 (c + 1) 3 0 0 ∧ e 5 = .int .i64 i ∧ a.Headers.list.take i = b.Headers.list.take i ∧ H = [⟨false, c, 3, [a.enc]⟩, ⟨false, c + 1, 3, [b.enc]⟩]) ⟨rfl, rfl, rfl, by simp, rfl⟩ ?_
  intro i e H c' hi ⟨e2, e3, e5, hall, hH⟩ N hN
  subst hH
  simp [e2, e3, e5]
  refine ⟨fun h => ⟨a.Headers.list[i], List.getElem?_eq_getElem h, ?_⟩, fun h => ?_⟩
  · have ht : i < b.Headers.list.length := by omega
    simp [e2, e3, e5]
    refine ⟨b.Headers.list[i], List.getElem?_eq_getElem ht, ?_⟩
    simp [e2, e3, e5]
    cases hq : hdEq a.Headers.list[i] b.Headers.list[i]
    · simp [e2, e3, e5]
      refine fin_plain ⟨?_, rfl⟩
      simp [same]
      intro _ _ he
      have hx : a.Headers.list[i] = b.Headers.list[i] := by simp [he]
      rw [hdEq_iff.2 hx] at hq
      cases hq
    · simp [e2, e3, e5]
      exact hN _ _ _ _ h (List.Sublist.refl _) ⟨by simp [upd, e2], by simp [upd, e3], by simp [upd]; exact step64 hn h, take_step hall h ht (hdEq_iff.1 hq), rfl⟩
  · refine fin_plain ⟨?_, rfl⟩
    have h3 : i = a.Headers.list.length := by omega
    rw [h3, List.take_length, hl, List.take_length] at hall
    simp [same, h1, h2, hall]

theorem impl_same {a b : TResponse} (hn : a.Headers.list.length ≤ mx) : Fnc Try.prog 28 [.agg a.enc, .agg b.enc] (.bool (same a b)) := by
  refine fn_of c28 (by simp [F28]) fun c => ?_
  unfold F28
  simp
  by_cases h1 : a.Code = b.Code
  rotate_left
  · simp [h1]; exact fin_plain ⟨by simp [same, h1], rfl⟩
  simp [h1]
  by_cases h2 : a.Body = b.Body
  rotate_left
  · simp [h1, h2]; exact fin_plain ⟨by simp [same, h2], rfl⟩
  simp [h1, h2]
  refine call_fn0 (equal_fn hn) .bool fun _ _ => ?_
  simp
  exact ⟨fun _ => fin_plain ⟨by simp [same, h1, h2], rfl⟩, fun h => absurd h2 h⟩

theorem same_con {a b a' b' : TResponse} (h : a.con = a'.con) (h' : b.con = b'.con) : same a b = same a' b' := by
  have e : ∀ x y : TResponse, x.con = y.con → x.Code = y.Code ∧ x.Body = y.Body ∧ x.Headers.list = y.Headers.list := fun x y hc =>
    ⟨(congrArg TResponse.Code hc : x.con.Code = y.con.Code), (congrArg TResponse.Body hc : x.con.Body = y.con.Body), by
      have : (x.con.Headers).list = (y.con.Headers).list := congrArg (fun z => z.Headers.list) hc
      have e : ∀ l : List THeader, l.map THeader.con = l := fun l => List.map_id' l
      simpa [TResponse.con, e] using this⟩
  obtain ⟨p1, p2, p3⟩ := e _ _ h
  obtain ⟨q1, q2, q3⟩ := e _ _ h'
  unfold same
  rw [p1, p2, p3, q1, q2, q3]

def TResponse.at (c : Nat) (a : TResponse) : TResponse := { a with Headers := .mk c a.Headers.list }
theorem TResponse.at_con (c : Nat) (a : TResponse) : (a.at c).con = a.con := rfl
theorem TResponse.at_from (c : Nat) (a : TResponse) : From c (.agg (a.at c).enc) := from_agg fun x hx => by
  simp [TResponse.enc, TResponse.at, SL.av] at hx
  rcases hx with rfl | rfl | rfl
  · simp
  · refine from_slc (Nat.le_refl _) fun row hr y hy => ?_
    obtain ⟨h, _, rfl⟩ := List.mem_map.1 hr
    simp [THeader.enc] at hy
    rcases hy with rfl | rfl <;> simp
  · simp
def IsR (a : TResponse) (v : AV) : Prop := ∃ b : TResponse, v = .agg b.enc ∧ b.con = a.con
theorem IsR_some (a : TResponse) (c : Nat) : ∃ r, IsR a r ∧ From c r := ⟨_, ⟨a.at c, rfl, a.at_con c⟩, a.at_from c⟩
theorem law_same {a b : TResponse} (ha : a.ok) (hb : b.ok) (c : Nat) : Con Try.prog 7 [.agg a.enc, .agg b.enc] [] c fun r H' _ => r = .bool true ∧ H' = [] := by
  refine con_of c7 (by simp [F7]) ?_
  unfold F7
  simp
  refine call_fn0 (TResponse.sz_fn ha ⟨by omega, by omega⟩) .int fun _ _ => ?_
  simp
  refine ⟨fun _ => fin_plain ⟨rfl, rfl⟩, fun h1 => ?_⟩
  obtain ⟨h1', h1''⟩ := szOf_ge h1
  rw [h1']
  refine call_fn0 (TResponse.sz_fn hb ⟨by omega, by omega⟩) .int fun _ _ => ?_
  simp
  refine ⟨fun _ => fin_plain ⟨rfl, rfl⟩, fun h2 => ?_⟩
  obtain ⟨h2', h2''⟩ := szOf_ge h2
  have hza : ∀ x : TResponse, x.con = a.con → x.sz ≤ 1048576 := fun x hx => by rw [← x.sz_con, hx, a.sz_con]; omega
  have hzb : ∀ x : TResponse, x.con = b.con → x.sz ≤ 1048576 := fun x hx => by rw [← x.sz_con, hx, b.sz_con]; omega
  have hmx : ∀ x : TResponse, x.con = a.con → x.Headers.list.length ≤ mx := fun x hx => by have := hza x hx; unfold TResponse.sz szHeaderS at this; unfold mx; omega
  refine ⟨fun d v => if d = 21 then IsR a v else if d = 23 then IsR b v else v = .bool (same a b), ?_⟩
  simp
  refine callD_tree0 (TResponse.to_fn (hza a rfl)) (IsR_some a _) fun r1 ⟨a1, e1, q1⟩ _ => ?_
  subst e1
  simp
  refine callD_tree0 (TResponse.to_fn (hzb b rfl)) (IsR_some b _) fun r2 ⟨b1, e2, q2⟩ _ => ?_
  subst e2
  simp
  refine callD_fn0 (spec_same (hmx _ q1)) (fun v => by rw [same_con q1 q2]) (by simp) ?_
  simp
  intro c1 _
  refine call_tree0 (TResponse.to_fn (hza a rfl)) fun r3 _ _ ⟨a2, e3, q3⟩ _ => ?_
  subst e3
  simp
  refine call_tree0 (TResponse.to_fn (hzb b rfl)) fun r4 _ _ ⟨b2, e4, q4⟩ _ => ?_
  subst e4
  simp
  refine call_fn0 (impl_same (hmx _ q3)) .bool fun _ _ => ?_
  simp [same_con q3 q4, same_con q1 q2]
  refine ⟨fun d v => if d = 37 then IsR a v else v = .bool true, ?_⟩
  simp
  refine callD_tree0 (TResponse.to_fn (hza a rfl)) (IsR_some a _) fun r5 ⟨a3, e5, q5⟩ _ => ?_
  subst e5
  simp
  refine callD_fn0 (TResponse.eq_fn (hza _ q3) (q3.trans q5.symm)) (fun v => Iff.rfl) (by simp) ?_
  simp
  intro c2 _
  refine ⟨fun d v => if d = 42 then IsR b v else v = .bool true, ?_⟩
  simp
  refine callD_tree0 (TResponse.to_fn (hzb b rfl)) (IsR_some b _) fun r6 ⟨b3, e6, q6⟩ _ => ?_
  subst e6
  simp
  refine callD_fn0 (TResponse.eq_fn (hzb _ q4) (q4.trans q6.symm)) (fun v => Iff.rfl) (by simp) ?_
  simp
  intro c3 _
  exact fin_plain ⟨rfl, rfl⟩
end A
end Go.Proofs.Ytbjefkkbmbgakaa
