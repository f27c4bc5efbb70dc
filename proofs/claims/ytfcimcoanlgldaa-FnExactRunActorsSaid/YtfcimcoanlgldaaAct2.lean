/-
  The accesses of a reader, of the program; of writer and reader, of the reference. No condition.
-/
import Derived.Test.YtfcimcoanlgldaaAct
namespace Go.Proofs.Ytfcimcoanlgldaa
namespace A
set_option linter.unusedVariables false
set_option linter.unusedSimpArgs false
set_option maxRecDepth 100000

theorem impl_read {tl ta i j c : Nat} {l : List TLine} {cs : List TActor} {x : TLine} {a : TActor} {R : List AObj} {n : Nat} (hn : n ≤ 2097152) (hx : l[i]? = some x) (ha : cs[j]? = some a) (gx : GdL n x.pl) (ga : GdA n a.pa) (hs : a.State = 1) (hw : a.Writer = false) (me : Int) :
    Con Try.prog 79 [.ptr 0 tl 4 i 0, .ptr 1 ta 7 j 0] (⟨false, tl, 4, l.map TLine.encO⟩ :: ⟨false, ta, 7, cs.map TActor.encO⟩ :: (a.inn ++ (x.inn ++ R))) c fun r O _ => Turned tl ta i j l cs x a me R r O := by
  have hi : i < l.length := (List.getElem?_eq_some_iff.1 hx).1
  have hj : j < cs.length := (List.getElem?_eq_some_iff.1 ha).1
  obtain ⟨x1, x2, x3⟩ := gx
  obtain ⟨a1, a2, a3, a4, a5, a6⟩ := ga
  simp only [TLine.pl, TActor.pa] at x1 x2 x3 a1 a2 a3 a4 a5 a6
  have w1 : IntKind.i64.wrap (a.At + 1) = a.At + 1 := wrap64 (by omega) (by omega)
  have w2 : IntKind.i64.wrap (a.At - 1) = a.At - 1 := wrap64 (by omega) (by omega)
  have w4 : IntKind.i64.wrap 1 = 1 := by decide
  have hp0 : ∀ J : List AObj, (x.inn ++ (a.inn ++ R)).Perm (a.inn ++ (x.inn ++ ([] ++ R))) := fun J => List.perm_append_comm_assoc ..
  have hl0 : (a.inn ++ (x.inn ++ R)).length ≤ (x.inn ++ (a.inn ++ R)).length := by simp; omega
  refine con_in (args' := [.ptr 0 tl 4 i 0, .ptr 1 ta 7 j 0]) (Hm := ⟨false, tl, 4, l.map TLine.encO⟩ :: ⟨false, ta, 7, cs.map TActor.encO⟩ :: (x.inn ++ (a.inn ++ R))) (H' := ⟨false, tl, 4, (l.map TLine.encO).set i (encX 2 x)⟩ :: ⟨false, ta, 7, (cs.map TActor.encO).set j (encY 3 a)⟩ :: (x.inn ++ (a.inn ++ R))) ?_ (Views.refl _ _) (.cons _ (.cons _ (List.perm_append_comm_assoc ..))) (.cons (ren_line tl i 2 hx) (.cons (ren_actor ta j 3 ha) (.refl _ _)))
  refine con_of c79 (by simp [F79]) ?_
  unfold F79
  by_cases h0 : a.At = 0
  · by_cases hv : x.Version = a.Version
    · simp [encX, encY, hi, hj, h0, putA, w4, hv]
      exact fin_turned (k1 := 2) (k2 := 3) (x' := ⟨x.Seq, x.Owner, a.Version, x.Words⟩) (a' := ⟨a.Writer, a.Line, a.Version, a.Words, a.State, 1, a.Seq⟩) (J := []) rfl (by simp [acc, TLine.pl, TActor.pa, hs, hw, h0, hv]) (hp0 []) hl0 tidy0
    · simp [encX, encY, hi, hj, h0, putA, w4, hv]
      exact fin_turned (k1 := 2) (k2 := 3) (x' := ⟨x.Seq, x.Owner, x.Version, x.Words⟩) (a' := ⟨a.Writer, a.Line, a.Version, a.Words, 3, 0, a.Seq⟩) (J := []) rfl (by simp [acc, TLine.pl, TActor.pa, hs, hw, h0, hv]) (hp0 []) hl0 tidy0
  by_cases h1 : a.At ≤ x.Words.list.length
  · obtain ⟨m, hm⟩ : ∃ m : Nat, a.At = (m : Int) + 1 := ⟨(a.At - 1).toNat, by omega⟩
    cases hX : x.Words with
    | nil => rw [hX] at h1; simp at h1; omega
    | mk tx wx =>
      rw [hX] at h1 x3
      simp only [SL.list_mk] at h1 x3
      have hmm : m < wx.length := by omega
      have hv : wx[m]? = some wx[m] := List.getElem?_eq_getElem hmm
      have hg : ((m : Int) + 1 - 1) = m := by omega
      have h1' : (m : Int) + 1 ≤ wx.length := by omega
      have h0' : ¬ (m : Int) + 1 = 0 := by omega
      have w5 : IntKind.i64.wrap (m : Int) = m := wrap64 (by omega) (by omega)
      have w7 : IntKind.i64.wrap ((m : Int) + 1 + 1) = m + 1 + 1 := wrap64 (by omega) (by omega)
      have m1 : (a.Words.list.length + 1) * 8 ≤ 140737488355328 := by omega
      have m2 : a.Words.list.length + 1 ≤ mx := by unfold mx; omega
      have hacc : ∀ t, (TLine.pl ⟨x.Seq, x.Owner, x.Version, .mk tx wx⟩, TActor.pa ⟨a.Writer, a.Line, a.Version, .mk t (a.Words.list ++ [wx[m]]), a.State, m + 1 + 1, a.Seq⟩) = acc me x.pl a.pa := fun t => by
        simp [acc, TLine.pl, TActor.pa, hs, hw, hm, hX, h0', h1', hv]
      generalize wx[m] = v at hv hacc
      cases hA : a.Words with
      | nil =>
        simp [encX, encY, hi, hj, hm, h0', h1', putA, w5, w7, hg, hA, hX, SL.at_, TActor.inn, TLine.inn, flat_wood]
        rw [hA] at m1 m2 hacc
        simp only [SL.list_nil, SL.list_mk, List.nil_append] at m1 m2 hacc
        refine ⟨hmm, v, hv, ?_⟩
        simp [encX, encY, hi, hj, hm, putA, w7, m1, m2]
        refine ⟨by unfold mx; omega, ?_⟩
        have hp : (⟨false, tx, 1, wx.map encI⟩ :: (R ++ [⟨false, c, 1, [[AV.int IntKind.i64 v]]⟩, ⟨false, c + 1, 1, [[AV.int IntKind.i64 v]]⟩]) : List AObj).Perm ((TActor.mk a.Writer a.Line a.Version (.mk (c + 1) [v]) a.State (m + 1 + 1) a.Seq).inn ++ ((TLine.mk x.Seq x.Owner x.Version (.mk tx wx)).inn ++ ([⟨false, c, 1, [[AV.int IntKind.i64 v]]⟩] ++ R))) := by
          simp only [TActor.inn, TLine.inn, flat_wood, List.singleton_append]
          refine (List.Perm.cons _ (List.perm_append_comm.trans (List.Perm.swap _ _ _))).trans (List.Perm.swap _ _ _)
        have := fin_turned (tl := tl) (ta := ta) (i := i) (j := j) (l := l) (cs := cs) (c := c + 1 + 1) (k1 := 2) (k2 := R.length + 1 + 1 + 1 + 1) (v := oneOf []) rfl (hacc (c + 1)) hp (by simp [TActor.inn, TLine.inn, hA, hX, flat_wood]) (tidy1 (tidyB _ _))
        simpa [encX, encY, SL.at_] using this
      | mk tw wa =>
        simp [encX, encY, hi, hj, hm, h0', h1', putA, w5, w7, hg, hA, hX, SL.at_, TActor.inn, TLine.inn, flat_wood]
        rw [hA] at m1 m2 hacc
        simp only [SL.list_nil, SL.list_mk, List.nil_append] at m1 m2 hacc
        refine ⟨hmm, v, hv, ?_⟩
        simp [encX, encY, hi, hj, hm, putA, w7, m1, m2]
        have hp : (⟨false, tx, 1, wx.map encI⟩ :: ⟨false, c + 1, 1, wa.map encI ++ [[AV.int IntKind.i64 v]]⟩ :: (R ++ [⟨false, c, 1, [[AV.int IntKind.i64 v]]⟩]) : List AObj).Perm ((TActor.mk a.Writer a.Line a.Version (.mk (c + 1) (wa ++ [v])) a.State (m + 1 + 1) a.Seq).inn ++ ((TLine.mk x.Seq x.Owner x.Version (.mk tx wx)).inn ++ ([⟨false, c, 1, [[AV.int IntKind.i64 v]]⟩] ++ R))) := by
          simp only [TActor.inn, TLine.inn, flat_wood, List.singleton_append, List.map_append]
          exact (List.Perm.swap _ _ _).trans (List.Perm.cons _ (List.Perm.cons _ List.perm_append_comm))
        have := fin_turned (tl := tl) (ta := ta) (i := i) (j := j) (l := l) (cs := cs) (c := c + 1 + 1) (k1 := 2) (k2 := 3) (v := oneOf []) rfl (hacc (c + 1)) hp (by simp [TActor.inn, TLine.inn, hA, hX, flat_wood]) (tidy1 (tidyB _ _))
        simpa [encX, encY, SL.at_] using this
  · by_cases hq : x.Seq = a.Seq
    · simp [encX, encY, hi, hj, h0, h1, putA, w1, w2, hq]
      exact fin_turned (k1 := 2) (k2 := 3) (x' := ⟨a.Seq, x.Owner, x.Version, x.Words⟩) (a' := ⟨a.Writer, a.Line, a.Version, a.Words, 2, a.At, a.Seq⟩) (J := []) rfl (by simp [acc, TLine.pl, TActor.pa, hs, hw, h0, h1, hq]) (hp0 []) hl0 tidy0
    · simp [encX, encY, hi, hj, h0, h1, putA, w1, w2, hq]
      exact fin_turned (k1 := 2) (k2 := 3) (x' := ⟨x.Seq, x.Owner, x.Version, x.Words⟩) (a' := ⟨a.Writer, a.Line, a.Version, a.Words, 3, a.At, a.Seq⟩) (J := []) rfl (by simp [acc, TLine.pl, TActor.pa, hs, hw, h0, h1, hq]) (hp0 []) hl0 tidy0

theorem fin_turned2 {tl ta i j k1 k2 c : Nat} {l : List TLine} {cs : List TActor} {x x' : TLine} {a a' : TActor} {me : Int} {R T J Wl Xl : List AObj} {v : AV} {rows1 rows2 : List (List AV)} (he : (x'.pl, a'.pa) = acc me x.pl a.pa)
    (hA : a'.inn = Wl) (hX : x'.inn = Xl) (hp : T.Perm (Wl ++ (Xl ++ (J ++ R)))) (hl : (a.inn ++ (x.inn ++ R)).length ≤ T.length) (e1 : rows1 = (l.map TLine.encO).set i (encX k1 x')) (e2 : rows2 = (cs.map TActor.encO).set j (encY k2 a')) (hv : v = .tup []) (hJ : ∀ o, o ∈ J → ∀ T, AvRows T o) :
    finW (fun r O _ => Turned tl ta i j l cs x a me R r O) v (⟨false, tl, 4, rows1⟩ :: ⟨false, ta, 7, rows2⟩ :: T) c := by
  subst e1; subst e2; subst hA; subst hX
  exact fin_turned hv he hp hl hJ
theorem pT_nil (W N X B : AObj) (R : List AObj) : (W :: (R ++ [X, B, N])).Perm ([W] ++ ([N] ++ ([X, B] ++ R))) :=
  List.Perm.cons _ (List.perm_append_comm.trans ((List.Perm.cons _ (List.Perm.swap _ _ _)).trans (List.Perm.swap _ _ _)))
theorem pT_mk (W X' X B : AObj) (R : List AObj) : (W :: X' :: (R ++ [X, B])).Perm ([W] ++ ([X'] ++ ([X, B] ++ R))) :=
  List.Perm.cons _ (List.Perm.cons _ List.perm_append_comm)

theorem spec_write {tl ta i j c : Nat} {l : List TLine} {cs : List TActor} {x : TLine} {a : TActor} {R : List AObj} {n : Nat} (hn : n ≤ 2097152) (hx : l[i]? = some x) (ha : cs[j]? = some a) (hL : a.Line = i) (gx : GdL n x.pl) (ga : GdA n a.pa) (hw : a.Writer = true) (me : Int) :
    Con Try.prog 74 [.ref 0 tl 4 l.length, .ptr 1 ta 7 j 0, .int .i64 me] (⟨false, tl, 4, l.map TLine.encO⟩ :: ⟨false, ta, 7, cs.map TActor.encO⟩ :: (a.inn ++ (x.inn ++ R))) c fun r O _ => Turned tl ta i j l cs x a me R r O := by
  have hi : i < l.length := (List.getElem?_eq_some_iff.1 hx).1
  have hj : j < cs.length := (List.getElem?_eq_some_iff.1 ha).1
  obtain ⟨x1, x2, x3⟩ := gx
  obtain ⟨a1, a2, a3, a4, a5, a6⟩ := ga
  simp only [TLine.pl, TActor.pa] at x1 x2 x3 a1 a2 a3 a4 a5 a6
  have w1 : IntKind.i64.wrap (a.At + 1) = a.At + 1 := wrap64 (by omega) (by omega)
  have w3 : IntKind.i64.wrap (x.Seq + 1) = x.Seq + 1 := wrap64 (by omega) (by omega)
  have hpX : ∀ T0 : List AObj, a.inn ++ (x.inn ++ R) = T0 → ∀ X : AObj, (T0 ++ [X]).Perm (a.inn ++ (x.inn ++ ([X] ++ R))) := fun T0 hT X => by
    subst hT
    simp only [List.append_assoc]
    exact (List.Perm.refl _).append ((List.Perm.refl _).append List.perm_append_comm)
  have hpN : ∀ T0 : List AObj, a.inn ++ (x.inn ++ R) = T0 → ∀ X : AObj, (T0 ++ [X]).Perm (a.inn ++ ([] ++ ((x.inn ++ [X]) ++ R))) := fun T0 hT X => by simpa using hpX T0 hT X
  have hlX : ∀ T0 : List AObj, a.inn ++ (x.inn ++ R) = T0 → ∀ X : AObj, (a.inn ++ (x.inn ++ R)).length ≤ (T0 ++ [X]).length := fun T0 hT X => by subst hT; simp
  refine con_in (args' := [.ref 0 tl 4 l.length, .ptr 1 ta 7 j 0, .int .i64 me]) (H' := ⟨false, tl, 4, (l.map TLine.encO).set i (encX 3 x)⟩ :: ⟨false, ta, 7, (cs.map TActor.encO).set j (encY 2 a)⟩ :: (a.inn ++ (x.inn ++ R))) ?_ (Views.refl _ _) (List.Perm.refl _) (.cons (ren_line tl i 3 hx) (.cons (ren_actor ta j 2 ha) (.refl _ _)))
  refine con_of c74 (by simp [F74]) ?_
  unfold F74
  have w4 : IntKind.i64.wrap 1 = 1 := by decide
  by_cases hs0 : a.State = 0
  · generalize hT : a.inn ++ (x.inn ++ R) = T0
    have hA0 := a5 hs0
    by_cases hp : x.Seq.tmod 2 = 0
    · simp [encX, encY, hi, hj, hL, putA, hs0, hp, w3]
      exact fin_turned (k1 := 3) (k2 := 2) (x' := ⟨x.Seq + 1, me, x.Version, x.Words⟩) (a' := ⟨a.Writer, i, a.Version, a.Words, 1, a.At, a.Seq⟩) rfl (by simp [acc, TLine.pl, TActor.pa, hs0, hw, hp, hL, hA0]) (hpX T0 hT _) (hlX T0 hT _) (tidy1 (tidyX _ _ _ _ (free_atI _ _ _)))
    · have hp1 : x.Seq.tmod 2 = 1 := by rw [Int.tmod_eq_emod_of_nonneg x1] at hp ⊢; omega
      simp [encX, encY, hi, hj, hL, putA, hs0, hp, w3]
      exact fin_turned (k1 := 3) (k2 := 2) (x' := ⟨x.Seq, x.Owner, x.Version, x.Words⟩) (a' := ⟨a.Writer, i, a.Version, a.Words, 0, a.At, a.Seq⟩) rfl (by simp [acc, TLine.pl, TActor.pa, hs0, hw, hp1, hL, hA0]) (hpX T0 hT _) (hlX T0 hT _) (tidy1 (tidyX _ _ _ _ (free_atI _ _ _)))
  by_cases hs1 : a.State = 1
  · by_cases h0 : a.At = 0
    · generalize hT : a.inn ++ (x.inn ++ R) = T0
      simp [encX, encY, hi, hj, hL, putA, hs0, hs1, h0, w3]
      exact fin_turned (k1 := 3) (k2 := 2) (x' := ⟨x.Seq, x.Owner, a.Version, .nil⟩) (a' := ⟨a.Writer, i, a.Version, a.Words, 1, 1, a.Seq⟩) rfl (by simp [acc, TLine.pl, TActor.pa, hs0, hs1, hw, hL, h0]) (hpN T0 hT _) (hlX T0 hT _) (tidyA (tidyI x.Words) (tidy1 (tidyX _ _ _ _ (fun _ => .nsl))))
    by_cases h1 : a.At ≤ a.Words.list.length
    · obtain ⟨m, hm⟩ : ∃ m : Nat, a.At = (m : Int) + 1 := ⟨(a.At - 1).toNat, by omega⟩
      cases hA : a.Words with
      | nil => rw [hA] at h1; simp at h1; omega
      | mk tw wa =>
        rw [hA] at h1 a6
        simp only [SL.list_mk] at h1 a6
        have hmm : m < wa.length := by omega
        have hv : wa[m]? = some wa[m] := List.getElem?_eq_getElem hmm
        have hg : ((m : Int) + 1 - 1) = m := by omega
        have h1' : (m : Int) + 1 ≤ wa.length := by omega
        have h0' : ¬ (m : Int) + 1 = 0 := by omega
        have w5 : IntKind.i64.wrap (m : Int) = m := wrap64 (by omega) (by omega)
        have w7 : IntKind.i64.wrap ((m : Int) + 1 + 1) = m + 1 + 1 := wrap64 (by omega) (by omega)
        have m1 : (x.Words.list.length + 1) * 8 ≤ 140737488355328 := by omega
        have m2 : x.Words.list.length + 1 ≤ mx := by unfold mx; omega
        have hacc : ∀ t, (TLine.pl ⟨x.Seq, x.Owner, x.Version, .mk t (x.Words.list ++ [wa[m]])⟩, TActor.pa ⟨a.Writer, i, a.Version, .mk tw wa, 1, m + 1 + 1, a.Seq⟩) = acc me x.pl a.pa := fun t => by
          simp [acc, TLine.pl, TActor.pa, hs1, hw, hm, hA, h0', h1', hv, hL]
        generalize wa[m] = v at hv hacc
        cases hX : x.Words with
        | nil =>
          simp [encX, encY, hi, hj, hL, hs0, hs1, hm, h0', h1', putA, w5, w7, hg, hA, hX, SL.at_, TActor.inn, TLine.inn, flat_wood]
          rw [hX] at m1 m2 hacc
          simp only [SL.list_nil, SL.list_mk, List.nil_append] at m1 m2 hacc
          refine ⟨hmm, v, hv, ?_⟩
          simp [encX, encY, hi, hj, hL, hm, putA, w7, m1, m2]
          refine ⟨by unfold mx; omega, ?_⟩
          exact fin_turned2 (k1 := R.length + 2 + 1 + 1 + 1) (k2 := 2) (hacc (c + 1 + 1)) (flat_wood ..) (flat_wood ..) (pT_nil _ _ _ _ _) (by simp [TActor.inn, TLine.inn, hA, hX, flat_wood]) rfl rfl rfl (tidyC (tidyX _ _ _ _ (free_r _ _ _ _)) (tidy1 (tidyB _ _)))
        | mk tx wx =>
          simp [encX, encY, hi, hj, hL, hs0, hs1, hm, h0', h1', putA, w5, w7, hg, hA, hX, SL.at_, TActor.inn, TLine.inn, flat_wood]
          rw [hX] at m1 m2 hacc
          simp only [SL.list_nil, SL.list_mk, List.nil_append] at m1 m2 hacc
          refine ⟨hmm, v, hv, ?_⟩
          simp [encX, encY, hi, hj, hL, hm, putA, w7, m1, m2]
          exact fin_turned2 (k1 := 3) (k2 := 2) (hacc (c + 1 + 1)) (flat_wood ..) (by simp [TLine.inn, flat_wood, encI]) (pT_mk _ _ _ _ _) (by simp [TActor.inn, TLine.inn, hA, hX, flat_wood]) (by simp [encX, SL.at_]) rfl rfl (tidyC (tidyX _ _ _ _ (free_r _ _ _ _)) (tidy1 (tidyB _ _)))
    · generalize hT : a.inn ++ (x.inn ++ R) = T0
      simp [encX, encY, hi, hj, hL, putA, hs0, hs1, h0, h1, w3]
      exact fin_turned (k1 := 3) (k2 := 2) (x' := ⟨x.Seq + 1, 0, x.Version, x.Words⟩) (a' := ⟨a.Writer, i, a.Version, a.Words, 2, a.At, a.Seq⟩) rfl (by simp [acc, TLine.pl, TActor.pa, hs0, hs1, hw, hL, h0, h1]) (hpX T0 hT _) (hlX T0 hT _) (tidy1 (tidyX _ _ _ _ (free_atI _ _ _)))
  · generalize hT : a.inn ++ (x.inn ++ R) = T0
    simp [encX, encY, hi, hj, hL, putA, hs0, hs1, w3]
    exact fin_turned (k1 := 3) (k2 := 2) (x' := ⟨x.Seq, x.Owner, x.Version, x.Words⟩) (a' := ⟨a.Writer, i, a.Version, a.Words, a.State, a.At, a.Seq⟩) rfl (by simp [acc, TLine.pl, TActor.pa, hs0, hs1, hw, hL]) (hpX T0 hT _) (hlX T0 hT _) (tidy1 (tidyX _ _ _ _ (free_atI _ _ _)))
end A
end Go.Proofs.Ytfcimcoanlgldaa
