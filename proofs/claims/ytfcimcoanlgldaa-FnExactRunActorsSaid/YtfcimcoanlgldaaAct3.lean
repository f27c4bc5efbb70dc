/-
  The accesses of a reader, of the reference; one access of either, of both. No condition.
-/
import Derived.Test.YtfcimcoanlgldaaAct2
namespace Go.Proofs.Ytfcimcoanlgldaa
namespace A
set_option linter.unusedVariables false
set_option linter.unusedSimpArgs false
set_option maxRecDepth 100000

theorem spec_read {tl ta i j c : Nat} {l : List TLine} {cs : List TActor} {x : TLine} {a : TActor} {R : List AObj} {n : Nat} (hn : n ≤ 2097152) (hx : l[i]? = some x) (ha : cs[j]? = some a) (hL : a.Line = i) (gx : GdL n x.pl) (ga : GdA n a.pa) (hw : a.Writer = false) (me : Int) :
    Con Try.prog 75 [.ref 0 tl 4 l.length, .ptr 1 ta 7 j 0] (⟨false, tl, 4, l.map TLine.encO⟩ :: ⟨false, ta, 7, cs.map TActor.encO⟩ :: (a.inn ++ (x.inn ++ R))) c fun r O _ => Turned tl ta i j l cs x a me R r O := by
  have hi : i < l.length := (List.getElem?_eq_some_iff.1 hx).1
  have hj : j < cs.length := (List.getElem?_eq_some_iff.1 ha).1
  obtain ⟨x1, x2, x3⟩ := gx
  obtain ⟨a1, a2, a3, a4, a5, a6⟩ := ga
  simp only [TLine.pl, TActor.pa] at x1 x2 x3 a1 a2 a3 a4 a5 a6
  have hpX : ∀ T0 : List AObj, x.inn ++ (a.inn ++ R) = T0 → ∀ X : AObj, (T0 ++ [X]).Perm (a.inn ++ (x.inn ++ ([X] ++ R))) := fun T0 hT X => by
    subst hT
    simp only [List.append_assoc]
    exact (List.perm_append_comm_assoc ..).trans ((List.Perm.refl _).append ((List.Perm.refl _).append List.perm_append_comm))
  have hlX : ∀ T0 : List AObj, x.inn ++ (a.inn ++ R) = T0 → ∀ X : AObj, (a.inn ++ (x.inn ++ R)).length ≤ (T0 ++ [X]).length := fun T0 hT X => by subst hT; simp; omega
  have sx : (l.map TLine.encO).set i (encX 2 x) = (l.map TLine.encO).set i (encX 2 x) := rfl
  refine con_in (args' := [.ref 0 tl 4 l.length, .ptr 1 ta 7 j 0]) (Hm := ⟨false, tl, 4, l.map TLine.encO⟩ :: ⟨false, ta, 7, cs.map TActor.encO⟩ :: (x.inn ++ (a.inn ++ R))) (H' := ⟨false, tl, 4, (l.map TLine.encO).set i (encX 2 x)⟩ :: ⟨false, ta, 7, (cs.map TActor.encO).set j (encY 3 a)⟩ :: (x.inn ++ (a.inn ++ R))) ?_ (Views.refl _ _) (.cons _ (.cons _ (List.perm_append_comm_assoc ..))) (.cons (ren_line tl i 2 hx) (.cons (ren_actor ta j 3 ha) (.refl _ _)))
  refine con_of c75 (by simp [F75]) ?_
  unfold F75
  have w4 : IntKind.i64.wrap 1 = 1 := by decide
  by_cases hs0 : a.State = 0
  · generalize hT : x.inn ++ (a.inn ++ R) = T0
    have hA0 := a5 hs0
    by_cases hp : x.Seq.tmod 2 = 0
    · simp [encX, encY, hi, hj, hL, putA, hs0, hp]
      exact fin_turned2 (k1 := 2) (k2 := 3) (x' := x) (a' := ⟨a.Writer, i, a.Version, a.Words, 1, a.At, x.Seq⟩) (by simp [acc, TLine.pl, TActor.pa, hs0, hw, hp, hL, hA0]) rfl rfl (hpX T0 hT _) (hlX T0 hT _) rfl rfl rfl (tidy1 (tidyX _ _ _ _ (free_atI _ _ _)))
    · have hp1 : x.Seq.tmod 2 = 1 := by rw [Int.tmod_eq_emod_of_nonneg x1] at hp ⊢; omega
      simp [encX, encY, hi, hj, hL, putA, hs0, hp]
      exact fin_turned2 (k1 := 2) (k2 := 3) (x' := x) (a' := ⟨a.Writer, i, a.Version, a.Words, 3, a.At, a.Seq⟩) (by simp [acc, TLine.pl, TActor.pa, hs0, hw, hp1, hL, hA0]) rfl rfl (hpX T0 hT _) (hlX T0 hT _) rfl rfl rfl (tidy1 (tidyX _ _ _ _ (free_atI _ _ _)))
  by_cases hs1 : a.State = 1
  · by_cases h0 : a.At = 0
    · generalize hT : x.inn ++ (a.inn ++ R) = T0
      by_cases hv : x.Version = a.Version
      · simp [encX, encY, hi, hj, hL, putA, hs0, hs1, h0, hv]
        exact fin_turned2 (k1 := 2) (k2 := 3) (x' := x) (a' := ⟨a.Writer, i, a.Version, a.Words, 1, 1, a.Seq⟩) (by simp [acc, TLine.pl, TActor.pa, hs0, hs1, hw, hL, h0, hv]) rfl rfl (hpX T0 hT _) (hlX T0 hT _) (by simp [encX, hv]) rfl rfl (tidy1 (tidyX _ _ _ _ (free_atI _ _ _)))
      · simp [encX, encY, hi, hj, hL, putA, hs0, hs1, h0, hv]
        exact fin_turned2 (k1 := 2) (k2 := 3) (x' := x) (a' := ⟨a.Writer, i, a.Version, a.Words, 3, 0, a.Seq⟩) (by simp [acc, TLine.pl, TActor.pa, hs0, hs1, hw, hL, h0, hv]) rfl rfl (hpX T0 hT _) (hlX T0 hT _) rfl rfl rfl (tidy1 (tidyX _ _ _ _ (free_atI _ _ _)))
    by_cases h1 : a.At ≤ x.Words.list.length
    · obtain ⟨m, hm⟩ : ∃ m : Nat, a.At = (m : Int) + 1 := ⟨(a.At - 1).toNat, by omega⟩
      cases hX : x.Words with
      | nil => rw [hX] at h1; simp at h1; omega
      | mk tx wx =>
        rw [hX] at h1 x3
        simp only [SL.list_mk] at h1 x3
        have hmm : m < wx.length := by omega
        have hv : wx[m]? = some wx[m] := List.getElem?_eq_getElem hmm
        have hg : ((m : Int) + 1 - 1) = m := by omega
        have h1' : (m : Int) + 1 ≤ wx.length := by omega
        have h0' : ¬ (m : Int) + 1 = 0 := by omega
        have w5 : IntKind.i64.wrap (m : Int) = m := wrap64 (by omega) (by omega)
        have w7 : IntKind.i64.wrap ((m : Int) + 1 + 1) = m + 1 + 1 := wrap64 (by omega) (by omega)
        have m1 : (a.Words.list.length + 1) * 8 ≤ 140737488355328 := by omega
        have m2 : a.Words.list.length + 1 ≤ mx := by unfold mx; omega
        have hacc : ∀ t, (TLine.pl ⟨x.Seq, x.Owner, x.Version, .mk tx wx⟩, TActor.pa ⟨a.Writer, i, a.Version, .mk t (a.Words.list ++ [wx[m]]), 1, m + 1 + 1, a.Seq⟩) = acc me x.pl a.pa := fun t => by
          simp [acc, TLine.pl, TActor.pa, hs1, hw, hm, hX, h0', h1', hv, hL]
        generalize wx[m] = v at hv hacc
        cases hA : a.Words with
        | nil =>
          simp [encX, encY, hi, hj, hL, hs0, hs1, hm, h0', h1', putA, w5, w7, hg, hA, hX, SL.at_, TActor.inn, TLine.inn, flat_wood]
          rw [hA] at m1 m2 hacc
          simp only [SL.list_nil, SL.list_mk, List.nil_append] at m1 m2 hacc
          refine ⟨hmm, v, hv, ?_⟩
          simp [encX, encY, hi, hj, hL, hm, putA, w7, m1, m2]
          refine ⟨by unfold mx; omega, ?_⟩
          exact fin_turned2 (k1 := 2) (k2 := R.length + 2 + 1 + 1 + 1) (hacc (c + 1 + 1)) (flat_wood ..) (flat_wood ..) ((pT_nil _ _ _ _ _).trans (List.perm_append_comm_assoc ..)) (by simp [TActor.inn, TLine.inn, hA, hX, flat_wood]) rfl rfl rfl (tidyC (tidyX _ _ _ _ (free_r _ _ _ _)) (tidy1 (tidyB _ _)))
        | mk tw wa =>
          simp [encX, encY, hi, hj, hL, hs0, hs1, hm, h0', h1', putA, w5, w7, hg, hA, hX, SL.at_, TActor.inn, TLine.inn, flat_wood]
          rw [hA] at m1 m2 hacc
          simp only [SL.list_nil, SL.list_mk, List.nil_append] at m1 m2 hacc
          refine ⟨hmm, v, hv, ?_⟩
          simp [encX, encY, hi, hj, hL, hm, putA, w7, m1, m2]
          exact fin_turned2 (k1 := 2) (k2 := 3) (hacc (c + 1 + 1)) (by simp [TActor.inn, flat_wood, encI]) (flat_wood ..) ((pT_mk _ _ _ _ _).trans (List.perm_append_comm_assoc ..)) (by simp [TActor.inn, TLine.inn, hA, hX, flat_wood]) rfl (by simp [encY, SL.at_]) rfl (tidyC (tidyX _ _ _ _ (free_r _ _ _ _)) (tidy1 (tidyB _ _)))
    · generalize hT : x.inn ++ (a.inn ++ R) = T0
      by_cases hq : x.Seq = a.Seq
      · simp [encX, encY, hi, hj, hL, putA, hs0, hs1, h0, h1, hq]
        exact fin_turned2 (k1 := 2) (k2 := 3) (x' := x) (a' := ⟨a.Writer, i, a.Version, a.Words, 2, a.At, a.Seq⟩) (by simp [acc, TLine.pl, TActor.pa, hs0, hs1, hw, hL, h0, h1, hq]) rfl rfl (hpX T0 hT _) (hlX T0 hT _) (by simp [encX, hq]) rfl rfl (tidy1 (tidyX _ _ _ _ (free_atI _ _ _)))
      · simp [encX, encY, hi, hj, hL, putA, hs0, hs1, h0, h1, hq]
        exact fin_turned2 (k1 := 2) (k2 := 3) (x' := x) (a' := ⟨a.Writer, i, a.Version, a.Words, 3, a.At, a.Seq⟩) (by simp [acc, TLine.pl, TActor.pa, hs0, hs1, hw, hL, h0, h1, hq]) rfl rfl (hpX T0 hT _) (hlX T0 hT _) rfl rfl rfl (tidy1 (tidyX _ _ _ _ (free_atI _ _ _)))
  · generalize hT : x.inn ++ (a.inn ++ R) = T0
    simp [encX, encY, hi, hj, hL, putA, hs0, hs1]
    exact fin_turned2 (k1 := 2) (k2 := 3) (x' := x) (a' := ⟨a.Writer, i, a.Version, a.Words, a.State, a.At, a.Seq⟩) (by simp [acc, TLine.pl, TActor.pa, hs0, hs1, hw, hL]) rfl rfl (hpX T0 hT _) (hlX T0 hT _) rfl rfl rfl (tidy1 (tidyX _ _ _ _ (free_atI _ _ _)))
end A
end Go.Proofs.Ytfcimcoanlgldaa
