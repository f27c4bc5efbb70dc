/-
  Pairs written as text, by the reference and by the program; the laws of FormatQuery and FormatCookies answer true. No condition.
-/
import Derived.Test.YtgiiipbpadgcgaaEsc
import Derived.Test.YtgiiipbpadgcgaaJn
import Derived.Test.YtgiiipbpadgcgaaTPair
namespace Go.Proofs.Ytgiiipbpadgcgaa
namespace A
set_option linter.unusedVariables false
set_option linter.unusedSimpArgs false
set_option maxRecDepth 100000

def pairT (p : TPair) : List UInt8 := escL p.Name ++ 61 :: escL p.Value
def fmtP (sep : List UInt8) (l : List TPair) : List UInt8 := joinL sep (l.map pairT)
theorem joinL_nil (sep : List UInt8) : joinL sep [] = [] := rfl
theorem joinL_snoc (sep x : List UInt8) (l : List (List UInt8)) : joinL sep (l ++ [x]) = (if 0 < l.length then joinL sep l ++ sep else []) ++ x := by
  cases l with
  | nil => simp [joinL, Lib.join_one]
  | cons a l => simp [joinL, Lib.join_cons, Lib.joinTail]
theorem joinL_len {sep : List UInt8} (hs : sep.length ≤ 2) (l : List (List UInt8)) : (joinL sep l).length ≤ szL (fun x => x.length + 2) l := by
  cases l with
  | nil => simp [joinL_nil, szL]
  | cons a l =>
    have : (Lib.joinTail sep l).length ≤ szL (fun x => x.length + 2) l := by
      induction l with
      | nil => simp [Lib.joinTail, szL]
      | cons b l ih => simp [Lib.joinTail, szL] at ih ⊢; omega
    simp [joinL, Lib.join_cons, szL] at this ⊢; omega
theorem pairT_len (p : TPair) : (pairT p).length ≤ 3 * p.sz + 1 := by
  have h1 := escL_len p.Name
  have h2 := escL_len p.Value
  simp [pairT, TPair.sz]; omega
theorem fmtP_len {sep : List UInt8} (hs : sep.length ≤ 2) (l : List TPair) : (fmtP sep l).length ≤ 3 * (l.length + szL TPair.sz l) := by
  refine Nat.le_trans (joinL_len hs _) ?_
  induction l with
  | nil => simp [szL]
  | cons p l ih => have := pairT_len p; simp [szL] at ih ⊢; omega
theorem fmtP_step (sep : List UInt8) (l : List TPair) {i : Nat} (h : i < l.length) : fmtP sep (l.take (i + 1)) = (if 0 < i then fmtP sep (l.take i) ++ sep else []) ++ pairT l[i] := by
  unfold fmtP
  rw [List.take_succ_eq_append_getElem h, List.map_append, List.map_singleton, joinL_snoc]
  simp only [List.length_map, List.length_take, Nat.min_eq_left (Nat.le_of_lt h)]

theorem spec_fmt {s : SL TPair} {sep : List UInt8} (hs : sep.length ≤ 2) (hz : s.list.length + szL TPair.sz s.list ≤ 1048576) : Fnc Try.prog 96 [s.av 2 TPair.enc, .str sep] (.str (fmtP sep s.list)) := by
  refine fn_of c96 (by simp [F96]) fun c => ?_
  unfold F96
  simp
  refine loop_drop s.list.length (fun i e H c' => e 0 = s.av 2 TPair.enc ∧ e 1 = .str sep ∧ e 5 = .str (fmtP sep (s.list.take i)) ∧ e 6 = .int .i64 i ∧ H = []) ⟨rfl, rfl, rfl, rfl, rfl⟩ ?_
  intro i e H c hi ⟨e0, e1, e5, e6, hH⟩ N hN
  subst hH
  simp [e0, e1, e5, e6]
  refine ⟨fun h => ?_, fun h => ?_⟩
  · have hl : s.list[i]? = some s.list[i] := List.getElem?_eq_getElem h
    have hst := fmtP_step sep s.list h
    have hlen := fmtP_len hs (s.list.take (i + 1))
    have hsz := szL_le TPair.sz s.list (i + 1)
    rw [hst] at hlen
    simp only [List.length_append, List.length_take] at hlen
    have hw : IntKind.i64.wrap ((i : Int) + 1) = ((i + 1 : Nat) : Int) := by rw [step64 (by unfold mx; omega) h]; rfl
    have hx := szL_mem (sz := TPair.sz) (List.getElem_mem h)
    generalize s.list[i] = x at hl hst hlen hx
    have hx1 : x.Name.length ≤ 1048576 := by simp only [TPair.sz] at hx; omega
    have hx2 : x.Value.length ≤ 1048576 := by simp only [TPair.sz] at hx; omega
    simp only [pairT, List.length_append, List.length_cons] at hlen
    refine ⟨fun h0 => ?_, fun h0 => ?_⟩
    · rw [if_pos h0] at hlen hst
      simp only [List.length_append] at hlen
      refine ⟨by unfold mx; omega, x, hl, ?_⟩
      simp [e0, e1, e6]
      refine callF_fn0 (specEsc_fn hx1) .str fun _ _ => ?_
      simp [e0, e1, e6]
      refine ⟨by unfold mx; omega, by unfold mx; omega, x, hl, ?_⟩
      simp [e0, e1, e6]
      refine callF_fn0 (specEsc_fn hx2) .str fun _ _ => ?_
      simp [e0, e1, e6]
      refine ⟨by unfold mx; omega, hN _ _ _ _ h (List.Sublist.refl _) ⟨by simp [upd, e0], by simp [upd, e1], ?_, by simp [upd, hw], rfl⟩⟩
      simp [upd, hst, pairT]
    · rw [if_neg (by omega)] at hlen hst
      subst h0
      have hf0 : fmtP sep [] = [] := rfl
      refine ⟨x, hl, ?_⟩
      simp [e0, e1, e6]
      refine callF_fn0 (specEsc_fn hx1) .str fun _ _ => ?_
      simp [e0, e1, e6, hf0]
      refine ⟨by unfold mx; omega, by unfold mx; omega, x, hl, ?_⟩
      simp [e0, e1, e6]
      refine callF_fn0 (specEsc_fn hx2) .str fun _ _ => ?_
      simp [e0, e1, e6]
      refine ⟨by unfold mx; omega, hN _ _ _ _ h (List.Sublist.refl _) ⟨by simp [upd, e0], by simp [upd, e1], ?_, by simp [upd]; exact wrap64 (by omega) (by omega), rfl⟩⟩
      simp [upd, hst, pairT]
  · have : i = s.list.length := by omega
    subst this
    simp
    exact fin_plain ⟨rfl, rfl⟩
theorem impl_fmt {s : SL TPair} {sep : List UInt8} (hs : sep.length ≤ 2) (hz : s.list.length + szL TPair.sz s.list ≤ 1048576) : Fnc Try.prog 98 [s.av 2 TPair.enc, .str sep] (.str (fmtP sep s.list)) := by
  refine fn_of c98 (by simp [F98]) fun c => ?_
  unfold F98
  simp
  refine loop_drop s.list.length (fun i e H c' => e 1 = .str sep ∧ e 9 = s.av 2 TPair.enc ∧ e 10 = .int .i64 s.list.length ∧ e 11 = .int .i64 i ∧ ∃ t, e 5 = .ref 0 t 1 i ∧ H = [⟨false, t, 1, ((s.list.take i).map pairT).map encS⟩]) ⟨rfl, rfl, rfl, rfl, c, rfl, rfl⟩ ?_
  intro i e H c hi ⟨e1, e9, e10, e11, t, e5, hH⟩ N hN
  subst hH
  simp [e1, e5, e9, e10, e11]
  refine ⟨fun h => ?_, fun h => ?_⟩
  · have hl : s.list[i]? = some s.list[i] := List.getElem?_eq_getElem h
    have hw : IntKind.i64.wrap ((i : Int) + 1) = ((i + 1 : Nat) : Int) := by rw [step64 (by unfold mx; omega) h]; rfl
    have hx := szL_mem (sz := TPair.sz) (List.getElem_mem h)
    have htk : ((s.list.take (i + 1)).map pairT).map encS = List.take i (List.map (encS ∘ pairT) s.list) ++ [encS (pairT s.list[i])] := by rw [List.take_succ_eq_append_getElem h, List.map_append, List.map_append]; simp
    generalize s.list[i] = x at hl hx htk
    have hx1 : x.Name.length ≤ 1048576 := by simp only [TPair.sz] at hx; omega
    have hx2 : x.Value.length ≤ 1048576 := by simp only [TPair.sz] at hx; omega
    have hp1 := escL_len x.Name
    have hp2 := escL_len x.Value
    have hm0 : (escL x.Name).length + 1 ≤ mx := by unfold mx; omega
    have hm3 : (escL x.Name).length + (1 + (escL x.Value).length) ≤ mx := by unfold mx; omega
    have hm4 : (escL x.Name).length + 1 + (escL x.Value).length ≤ mx := by unfold mx; omega
    have hm5 : (escL x.Name).length + ((escL x.Value).length + 1) ≤ mx := by unfold mx; omega
    have hm1 : (i + 1) * 16 ≤ 140737488355328 := by omega
    have hm2 : i + 1 ≤ mx := by unfold mx; omega
    refine ⟨x, hl, ?_⟩
    simp [e1, e5, e9, e10, e11, putA]
    refine callF_fn0 (implEsc_fn hx1) .str fun _ _ => ?_
    simp [e1, e5, e9, e10, e11, hm0]
    refine callF_fn0 (implEsc_fn hx2) .str fun _ _ => ?_
    simp [e1, e5, e9, e10, e11, hm1, hm2, hm3, hm4, hm5, hw]
    refine ⟨by omega, hN _ _ _ _ h (sub_one _ _) ⟨by simp [upd, e1], by simp [upd, e9], by simp [upd, e10], by simp [upd], _, by simp [upd]; rfl, ?_⟩⟩
    rw [htk]; simp [encS, pairT]
  · have : i = s.list.length := by omega
    subst this
    have hl := fmtP_len hs s.list
    unfold fmtP at hl
    rw [List.take_of_length_le (by simp), ← List.map_map]
    refine call_fn (join_fn (t := t) (l := s.list.map pairT) (by omega) (by simp; omega)) (.cons (view_ref (enc := encS) (l := s.list.map pairT) (by simp) (by simp) (by simp [encS])) (.cons (.refl _) .nil)) .str fun _ _ => ?_
    simp
    exact fin_sub (List.nil_sublist _) (.refl _) ⟨rfl, rfl⟩

theorem spec_fmtQ {s : SL TPair} (hz : s.list.length + szL TPair.sz s.list ≤ 1048576) : Fnc Try.prog 48 [s.av 2 TPair.enc] (.str (fmtP [38] s.list)) := by
  refine fn_of c48 (by simp [F48]) fun c => ?_
  unfold F48
  simp
  refine call_fn0 (spec_fmt (by simp) hz) .str fun _ _ => ?_
  simp
  exact fin_plain ⟨rfl, rfl⟩
theorem impl_fmtQ {s : SL TPair} (hz : s.list.length + szL TPair.sz s.list ≤ 1048576) : Fnc Try.prog 49 [s.av 2 TPair.enc] (.str (fmtP [38] s.list)) := by
  refine fn_of c49 (by simp [F49]) fun c => ?_
  unfold F49
  simp
  refine call_fn0 (impl_fmt (by simp) hz) .str fun _ _ => ?_
  simp
  exact fin_plain ⟨rfl, rfl⟩
theorem spec_fmtC {s : SL TPair} (hz : s.list.length + szL TPair.sz s.list ≤ 1048576) : Fnc Try.prog 44 [s.av 2 TPair.enc] (.str (fmtP [59, 32] s.list)) := by
  refine fn_of c44 (by simp [F44]) fun c => ?_
  unfold F44
  simp
  refine call_fn0 (spec_fmt (by simp) hz) .str fun _ _ => ?_
  simp
  exact fin_plain ⟨rfl, rfl⟩
theorem impl_fmtC {s : SL TPair} (hz : s.list.length + szL TPair.sz s.list ≤ 1048576) : Fnc Try.prog 46 [s.av 2 TPair.enc] (.str (fmtP [59, 32] s.list)) := by
  refine fn_of c46 (by simp [F46]) fun c => ?_
  unfold F46
  simp
  refine call_fn0 (impl_fmt (by simp) hz) .str fun _ _ => ?_
  simp
  exact fin_plain ⟨rfl, rfl⟩
end A
end Go.Proofs.Ytgiiipbpadgcgaa
