import Derived.Test.YtgiiipbpadgcgaaB08

/-
  The accesses of a reader, of the program; of writer and reader, of the reference. No condition.
-/

namespace Go.Proofs.Ytgiiipbpadgcgaa
namespace A
set_option linter.unusedVariables false
set_option linter.unusedSimpArgs false
set_option maxRecDepth 100000

theorem impl_read {tl ta i j c : Nat} {l : List TLine} {cs : List TActor} {x : TLine} {a : TActor} {R : List AObj} {n : Nat} (hn : n ≤ 2097152) (hx : l[i]? = some x) (ha : cs[j]? = some a) (gx : GdL n x.pl) (ga : GdA n a.pa) (hs : a.State = 1) (hw : a.Writer = false) (me : Int) :
    Con Try.prog 150 [.ptr 0 tl 4 i 0, .ptr 1 ta 7 j 0] (⟨false, tl, 4, l.map TLine.encO⟩ :: ⟨false, ta, 7, cs.map TActor.encO⟩ :: (a.inn ++ (x.inn ++ R))) c fun r O _ => Turned tl ta i j l cs x a me R r O := by
  have hi : i < l.length := (List.getElem?_eq_some_iff.1 hx).1
  have hj : j < cs.length := (List.getElem?_eq_some_iff.1 ha).1
  obtain ⟨x1, x2, x3⟩ := gx
  obtain ⟨a1, a2, a3, a4, a5, a6⟩ := ga
  simp only [TLine.pl, TActor.pa] at x1 x2 x3 a1 a2 a3 a4 a5 a6
  have w1 : IntKind.i64.wrap (a.At + 1) = a.At + 1 := wrap64 (by omega) (by omega)
  have w2 : IntKind.i64.wrap (a.At - 1) = a.At - 1 := wrap64 (by omega) (by omega)
  have w4 : IntKind.i64.wrap 1 = 1 := by decide
  have hp0 : ∀ J : List AObj, (x.inn ++ (a.inn ++ R)).Perm (a.inn ++ (x.inn ++ ([] ++ R))) := fun J => List.perm_append_comm_assoc ..
  have hl0 : (a.inn ++ (x.inn ++ R)).length ≤ (x.inn ++ (a.inn ++ R)).length := by simp; omega
  refine con_in (args' := [.ptr 0 tl 4 i 0, .ptr 1 ta 7 j 0]) (Hm := ⟨false, tl, 4, l.map TLine.encO⟩ :: ⟨false, ta, 7, cs.map TActor.encO⟩ :: (x.inn ++ (a.inn ++ R))) (H' := ⟨false, tl, 4, (l.map TLine.encO).set i (encX 2 x)⟩ :: ⟨false, ta, 7, (cs.map TActor.encO).set j (encY 3 a)⟩ :: (x.inn ++ (a.inn ++ R))) ?_ (Views.refl _ _) (.cons _ (.cons _ (List.perm_append_comm_assoc ..))) (.cons (ren_line tl i 2 hx) (.cons (ren_actor ta j 3 ha) (.refl _ _)))
  refine con_of c150 (by simp [F150]) ?_
  unfold F150
  by_cases h0 : a.At = 0
  · by_cases hv : x.Version = a.Version
    · simp [encX, encY, hi, hj, h0, putA, w4, hv]
      exact fin_turned (k1 := 2) (k2 := 3) (x' := ⟨x.Seq, x.Owner, a.Version, x.Words⟩) (a' := ⟨a.Writer, a.Line, a.Version, a.Words, a.State, 1, a.Seq⟩) (J := []) rfl (by simp [acc, TLine.pl, TActor.pa, hs, hw, h0, hv]) (hp0 []) hl0 tidy0
    · simp [encX, encY, hi, hj, h0, putA, w4, hv]
      exact fin_turned (k1 := 2) (k2 := 3) (x' := ⟨x.Seq, x.Owner, x.Version, x.Words⟩) (a' := ⟨a.Writer, a.Line, a.Version, a.Words, 3, 0, a.Seq⟩) (J := []) rfl (by simp [acc, TLine.pl, TActor.pa, hs, hw, h0, hv]) (hp0 []) hl0 tidy0
  by_cases h1 : a.At ≤ x.Words.list.length
  · obtain ⟨m, hm⟩ : ∃ m : Nat, a.At = (m : Int) + 1 := ⟨(a.At - 1).toNat, by omega⟩
    cases hX : x.Words with
    | nil => rw [hX] at h1; simp at h1; omega
    | mk tx wx =>
      rw [hX] at h1 x3
      simp only [SL.list_mk] at h1 x3
      have hmm : m < wx.length := by omega
      have hv : wx[m]? = some wx[m] := List.getElem?_eq_getElem hmm
      have hg : ((m : Int) + 1 - 1) = m := by omega
      have h1' : (m : Int) + 1 ≤ wx.length := by omega
      have h0' : ¬ (m : Int) + 1 = 0 := by omega
      have w5 : IntKind.i64.wrap (m : Int) = m := wrap64 (by omega) (by omega)
      have w7 : IntKind.i64.wrap ((m : Int) + 1 + 1) = m + 1 + 1 := wrap64 (by omega) (by omega)
      have m1 : (a.Words.list.length + 1) * 8 ≤ 140737488355328 := by omega
      have m2 : a.Words.list.length + 1 ≤ mx := by unfold mx; omega
      have hacc : ∀ t, (TLine.pl ⟨x.Seq, x.Owner, x.Version, .mk tx wx⟩, TActor.pa ⟨a.Writer, a.Line, a.Version, .mk t (a.Words.list ++ [wx[m]]), a.State, m + 1 + 1, a.Seq⟩) = acc me x.pl a.pa := fun t => by
        simp [acc, TLine.pl, TActor.pa, hs, hw, hm, hX, h0', h1', hv]
      generalize wx[m] = v at hv hacc
      cases hA : a.Words with
      | nil =>
        simp [encX, encY, hi, hj, hm, h0', h1', putA, w5, w7, hg, hA, hX, SL.at_, TActor.inn, TLine.inn, flat_wood]
        rw [hA] at m1 m2 hacc
        simp only [SL.list_nil, SL.list_mk, List.nil_append] at m1 m2 hacc
        refine ⟨hmm, v, hv, ?_⟩
        simp [encX, encY, hi, hj, hm, putA, w7, m1, m2]
        refine ⟨by unfold mx; omega, ?_⟩
        have hp : (⟨false, tx, 1, wx.map encI⟩ :: (R ++ [⟨false, c, 1, [[AV.int IntKind.i64 v]]⟩, ⟨false, c + 1, 1, [[AV.int IntKind.i64 v]]⟩]) : List AObj).Perm ((TActor.mk a.Writer a.Line a.Version (.mk (c + 1) [v]) a.State (m + 1 + 1) a.Seq).inn ++ ((TLine.mk x.Seq x.Owner x.Version (.mk tx wx)).inn ++ ([⟨false, c, 1, [[AV.int IntKind.i64 v]]⟩] ++ R))) := by
          simp only [TActor.inn, TLine.inn, flat_wood, List.singleton_append]
          refine (List.Perm.cons _ (List.perm_append_comm.trans (List.Perm.swap _ _ _))).trans (List.Perm.swap _ _ _)
        have := fin_turned (tl := tl) (ta := ta) (i := i) (j := j) (l := l) (cs := cs) (c := c + 1 + 1) (k1 := 2) (k2 := R.length + 1 + 1 + 1 + 1) (v := oneOf []) rfl (hacc (c + 1)) hp (by simp [TActor.inn, TLine.inn, hA, hX, flat_wood]) (tidy1 (tidyB _ _))
        simpa [encX, encY, SL.at_] using this
      | mk tw wa =>
        simp [encX, encY, hi, hj, hm, h0', h1', putA, w5, w7, hg, hA, hX, SL.at_, TActor.inn, TLine.inn, flat_wood]
        rw [hA] at m1 m2 hacc
        simp only [SL.list_nil, SL.list_mk, List.nil_append] at m1 m2 hacc
        refine ⟨hmm, v, hv, ?_⟩
        simp [encX, encY, hi, hj, hm, putA, w7, m1, m2]
        have hp : (⟨false, tx, 1, wx.map encI⟩ :: ⟨false, c + 1, 1, wa.map encI ++ [[AV.int IntKind.i64 v]]⟩ :: (R ++ [⟨false, c, 1, [[AV.int IntKind.i64 v]]⟩]) : List AObj).Perm ((TActor.mk a.Writer a.Line a.Version (.mk (c + 1) (wa ++ [v])) a.State (m + 1 + 1) a.Seq).inn ++ ((TLine.mk x.Seq x.Owner x.Version (.mk tx wx)).inn ++ ([⟨false, c, 1, [[AV.int IntKind.i64 v]]⟩] ++ R))) := by
          simp only [TActor.inn, TLine.inn, flat_wood, List.singleton_append, List.map_append]
          exact (List.Perm.swap _ _ _).trans (List.Perm.cons _ (List.Perm.cons _ List.perm_append_comm))
        have := fin_turned (tl := tl) (ta := ta) (i := i) (j := j) (l := l) (cs := cs) (c := c + 1 + 1) (k1 := 2) (k2 := 3) (v := oneOf []) rfl (hacc (c + 1)) hp (by simp [TActor.inn, TLine.inn, hA, hX, flat_wood]) (tidy1 (tidyB _ _))
        simpa [encX, encY, SL.at_] using this
  · by_cases hq : x.Seq = a.Seq
    · simp [encX, encY, hi, hj, h0, h1, putA, w1, w2, hq]
      exact fin_turned (k1 := 2) (k2 := 3) (x' := ⟨a.Seq, x.Owner, x.Version, x.Words⟩) (a' := ⟨a.Writer, a.Line, a.Version, a.Words, 2, a.At, a.Seq⟩) (J := []) rfl (by simp [acc, TLine.pl, TActor.pa, hs, hw, h0, h1, hq]) (hp0 []) hl0 tidy0
    · simp [encX, encY, hi, hj, h0, h1, putA, w1, w2, hq]
      exact fin_turned (k1 := 2) (k2 := 3) (x' := ⟨x.Seq, x.Owner, x.Version, x.Words⟩) (a' := ⟨a.Writer, a.Line, a.Version, a.Words, 3, a.At, a.Seq⟩) (J := []) rfl (by simp [acc, TLine.pl, TActor.pa, hs, hw, h0, h1, hq]) (hp0 []) hl0 tidy0

theorem fin_turned2 {tl ta i j k1 k2 c : Nat} {l : List TLine} {cs : List TActor} {x x' : TLine} {a a' : TActor} {me : Int} {R T J Wl Xl : List AObj} {v : AV} {rows1 rows2 : List (List AV)} (he : (x'.pl, a'.pa) = acc me x.pl a.pa)
    (hA : a'.inn = Wl) (hX : x'.inn = Xl) (hp : T.Perm (Wl ++ (Xl ++ (J ++ R)))) (hl : (a.inn ++ (x.inn ++ R)).length ≤ T.length) (e1 : rows1 = (l.map TLine.encO).set i (encX k1 x')) (e2 : rows2 = (cs.map TActor.encO).set j (encY k2 a')) (hv : v = .tup []) (hJ : ∀ o, o ∈ J → ∀ T, AvRows T o) :
    finW (fun r O _ => Turned tl ta i j l cs x a me R r O) v (⟨false, tl, 4, rows1⟩ :: ⟨false, ta, 7, rows2⟩ :: T) c := by
  subst e1; subst e2; subst hA; subst hX
  exact fin_turned hv he hp hl hJ
theorem pT_nil (W N X B : AObj) (R : List AObj) : (W :: (R ++ [X, B, N])).Perm ([W] ++ ([N] ++ ([X, B] ++ R))) :=
  List.Perm.cons _ (List.perm_append_comm.trans ((List.Perm.cons _ (List.Perm.swap _ _ _)).trans (List.Perm.swap _ _ _)))
theorem pT_mk (W X' X B : AObj) (R : List AObj) : (W :: X' :: (R ++ [X, B])).Perm ([W] ++ ([X'] ++ ([X, B] ++ R))) :=
  List.Perm.cons _ (List.Perm.cons _ List.perm_append_comm)

theorem spec_write {tl ta i j c : Nat} {l : List TLine} {cs : List TActor} {x : TLine} {a : TActor} {R : List AObj} {n : Nat} (hn : n ≤ 2097152) (hx : l[i]? = some x) (ha : cs[j]? = some a) (hL : a.Line = i) (gx : GdL n x.pl) (ga : GdA n a.pa) (hw : a.Writer = true) (me : Int) :
    Con Try.prog 170 [.ref 0 tl 4 l.length, .ptr 1 ta 7 j 0, .int .i64 me] (⟨false, tl, 4, l.map TLine.encO⟩ :: ⟨false, ta, 7, cs.map TActor.encO⟩ :: (a.inn ++ (x.inn ++ R))) c fun r O _ => Turned tl ta i j l cs x a me R r O := by
  have hi : i < l.length := (List.getElem?_eq_some_iff.1 hx).1
  have hj : j < cs.length := (List.getElem?_eq_some_iff.1 ha).1
  obtain ⟨x1, x2, x3⟩ := gx
  obtain ⟨a1, a2, a3, a4, a5, a6⟩ := ga
  simp only [TLine.pl, TActor.pa] at x1 x2 x3 a1 a2 a3 a4 a5 a6
  have w1 : IntKind.i64.wrap (a.At + 1) = a.At + 1 := wrap64 (by omega) (by omega)
  have w3 : IntKind.i64.wrap (x.Seq + 1) = x.Seq + 1 := wrap64 (by omega) (by omega)
  have hpX : ∀ T0 : List AObj, a.inn ++ (x.inn ++ R) = T0 → ∀ X : AObj, (T0 ++ [X]).Perm (a.inn ++ (x.inn ++ ([X] ++ R))) := fun T0 hT X => by
    subst hT
    simp only [List.append_assoc]
    exact (List.Perm.refl _).append ((List.Perm.refl _).append List.perm_append_comm)
  have hpN : ∀ T0 : List AObj, a.inn ++ (x.inn ++ R) = T0 → ∀ X : AObj, (T0 ++ [X]).Perm (a.inn ++ ([] ++ ((x.inn ++ [X]) ++ R))) := fun T0 hT X => by simpa using hpX T0 hT X
  have hlX : ∀ T0 : List AObj, a.inn ++ (x.inn ++ R) = T0 → ∀ X : AObj, (a.inn ++ (x.inn ++ R)).length ≤ (T0 ++ [X]).length := fun T0 hT X => by subst hT; simp
  refine con_in (args' := [.ref 0 tl 4 l.length, .ptr 1 ta 7 j 0, .int .i64 me]) (H' := ⟨false, tl, 4, (l.map TLine.encO).set i (encX 3 x)⟩ :: ⟨false, ta, 7, (cs.map TActor.encO).set j (encY 2 a)⟩ :: (a.inn ++ (x.inn ++ R))) ?_ (Views.refl _ _) (List.Perm.refl _) (.cons (ren_line tl i 3 hx) (.cons (ren_actor ta j 2 ha) (.refl _ _)))
  refine con_of c170 (by simp [F170]) ?_
  unfold F170
  have w4 : IntKind.i64.wrap 1 = 1 := by decide
  by_cases hs0 : a.State = 0
  · generalize hT : a.inn ++ (x.inn ++ R) = T0
    have hA0 := a5 hs0
    by_cases hp : x.Seq.tmod 2 = 0
    · simp [encX, encY, hi, hj, hL, putA, hs0, hp, w3]
      exact fin_turned (k1 := 3) (k2 := 2) (x' := ⟨x.Seq + 1, me, x.Version, x.Words⟩) (a' := ⟨a.Writer, i, a.Version, a.Words, 1, a.At, a.Seq⟩) rfl (by simp [acc, TLine.pl, TActor.pa, hs0, hw, hp, hL, hA0]) (hpX T0 hT _) (hlX T0 hT _) (tidy1 (tidyX _ _ _ _ (free_atI _ _ _)))
    · have hp1 : x.Seq.tmod 2 = 1 := by rw [Int.tmod_eq_emod_of_nonneg x1] at hp ⊢; omega
      simp [encX, encY, hi, hj, hL, putA, hs0, hp, w3]
      exact fin_turned (k1 := 3) (k2 := 2) (x' := ⟨x.Seq, x.Owner, x.Version, x.Words⟩) (a' := ⟨a.Writer, i, a.Version, a.Words, 0, a.At, a.Seq⟩) rfl (by simp [acc, TLine.pl, TActor.pa, hs0, hw, hp1, hL, hA0]) (hpX T0 hT _) (hlX T0 hT _) (tidy1 (tidyX _ _ _ _ (free_atI _ _ _)))
  by_cases hs1 : a.State = 1
  · by_cases h0 : a.At = 0
    · generalize hT : a.inn ++ (x.inn ++ R) = T0
      simp [encX, encY, hi, hj, hL, putA, hs0, hs1, h0, w3]
      exact fin_turned (k1 := 3) (k2 := 2) (x' := ⟨x.Seq, x.Owner, a.Version, .nil⟩) (a' := ⟨a.Writer, i, a.Version, a.Words, 1, 1, a.Seq⟩) rfl (by simp [acc, TLine.pl, TActor.pa, hs0, hs1, hw, hL, h0]) (hpN T0 hT _) (hlX T0 hT _) (tidyA (tidyI x.Words) (tidy1 (tidyX _ _ _ _ (fun _ => .nsl))))
    by_cases h1 : a.At ≤ a.Words.list.length
    · obtain ⟨m, hm⟩ : ∃ m : Nat, a.At = (m : Int) + 1 := ⟨(a.At - 1).toNat, by omega⟩
      cases hA : a.Words with
      | nil => rw [hA] at h1; simp at h1; omega
      | mk tw wa =>
        rw [hA] at h1 a6
        simp only [SL.list_mk] at h1 a6
        have hmm : m < wa.length := by omega
        have hv : wa[m]? = some wa[m] := List.getElem?_eq_getElem hmm
        have hg : ((m : Int) + 1 - 1) = m := by omega
        have h1' : (m : Int) + 1 ≤ wa.length := by omega
        have h0' : ¬ (m : Int) + 1 = 0 := by omega
        have w5 : IntKind.i64.wrap (m : Int) = m := wrap64 (by omega) (by omega)
        have w7 : IntKind.i64.wrap ((m : Int) + 1 + 1) = m + 1 + 1 := wrap64 (by omega) (by omega)
        have m1 : (x.Words.list.length + 1) * 8 ≤ 140737488355328 := by omega
        have m2 : x.Words.list.length + 1 ≤ mx := by unfold mx; omega
        have hacc : ∀ t, (TLine.pl ⟨x.Seq, x.Owner, x.Version, .mk t (x.Words.list ++ [wa[m]])⟩, TActor.pa ⟨a.Writer, i, a.Version, .mk tw wa, 1, m + 1 + 1, a.Seq⟩) = acc me x.pl a.pa := fun t => by
          simp [acc, TLine.pl, TActor.pa, hs1, hw, hm, hA, h0', h1', hv, hL]
        generalize wa[m] = v at hv hacc
        cases hX : x.Words with
        | nil =>
          simp [encX, encY, hi, hj, hL, hs0, hs1, hm, h0', h1', putA, w5, w7, hg, hA, hX, SL.at_, TActor.inn, TLine.inn, flat_wood]
          rw [hX] at m1 m2 hacc
          simp only [SL.list_nil, SL.list_mk, List.nil_append] at m1 m2 hacc
          refine ⟨hmm, v, hv, ?_⟩
          simp [encX, encY, hi, hj, hL, hm, putA, w7, m1, m2]
          refine ⟨by unfold mx; omega, ?_⟩
          exact fin_turned2 (k1 := R.length + 2 + 1 + 1 + 1) (k2 := 2) (hacc (c + 1 + 1)) (flat_wood ..) (flat_wood ..) (pT_nil _ _ _ _ _) (by simp [TActor.inn, TLine.inn, hA, hX, flat_wood]) rfl rfl rfl (tidyC (tidyX _ _ _ _ (free_r _ _ _ _)) (tidy1 (tidyB _ _)))
        | mk tx wx =>
          simp [encX, encY, hi, hj, hL, hs0, hs1, hm, h0', h1', putA, w5, w7, hg, hA, hX, SL.at_, TActor.inn, TLine.inn, flat_wood]
          rw [hX] at m1 m2 hacc
          simp only [SL.list_nil, SL.list_mk, List.nil_append] at m1 m2 hacc
          refine ⟨hmm, v, hv, ?_⟩
          simp [encX, encY, hi, hj, hL, hm, putA, w7, m1, m2]
          exact fin_turned2 (k1 := 3) (k2 := 2) (hacc (c + 1 + 1)) (flat_wood ..) (by simp [TLine.inn, flat_wood, encI]) (pT_mk _ _ _ _ _) (by simp [TActor.inn, TLine.inn, hA, hX, flat_wood]) (by simp [encX, SL.at_]) rfl rfl (tidyC (tidyX _ _ _ _ (free_r _ _ _ _)) (tidy1 (tidyB _ _)))
    · generalize hT : a.inn ++ (x.inn ++ R) = T0
      simp [encX, encY, hi, hj, hL, putA, hs0, hs1, h0, h1, w3]
      exact fin_turned (k1 := 3) (k2 := 2) (x' := ⟨x.Seq + 1, 0, x.Version, x.Words⟩) (a' := ⟨a.Writer, i, a.Version, a.Words, 2, a.At, a.Seq⟩) rfl (by simp [acc, TLine.pl, TActor.pa, hs0, hs1, hw, hL, h0, h1]) (hpX T0 hT _) (hlX T0 hT _) (tidy1 (tidyX _ _ _ _ (free_atI _ _ _)))
  · generalize hT : a.inn ++ (x.inn ++ R) = T0
    simp [encX, encY, hi, hj, hL, putA, hs0, hs1, w3]
    exact fin_turned (k1 := 3) (k2 := 2) (x' := ⟨x.Seq, x.Owner, x.Version, x.Words⟩) (a' := ⟨a.Writer, i, a.Version, a.Words, a.State, a.At, a.Seq⟩) rfl (by simp [acc, TLine.pl, TActor.pa, hs0, hs1, hw, hL]) (hpX T0 hT _) (hlX T0 hT _) (tidy1 (tidyX _ _ _ _ (free_atI _ _ _)))
end A
end Go.Proofs.Ytgiiipbpadgcgaa

/-
  The accesses of a reader, of the reference; one access of either, of both. No condition.
-/

namespace Go.Proofs.Ytgiiipbpadgcgaa
namespace A
set_option linter.unusedVariables false
set_option linter.unusedSimpArgs false
set_option maxRecDepth 100000

theorem spec_read {tl ta i j c : Nat} {l : List TLine} {cs : List TActor} {x : TLine} {a : TActor} {R : List AObj} {n : Nat} (hn : n ≤ 2097152) (hx : l[i]? = some x) (ha : cs[j]? = some a) (hL : a.Line = i) (gx : GdL n x.pl) (ga : GdA n a.pa) (hw : a.Writer = false) (me : Int) :
    Con Try.prog 171 [.ref 0 tl 4 l.length, .ptr 1 ta 7 j 0] (⟨false, tl, 4, l.map TLine.encO⟩ :: ⟨false, ta, 7, cs.map TActor.encO⟩ :: (a.inn ++ (x.inn ++ R))) c fun r O _ => Turned tl ta i j l cs x a me R r O := by
  have hi : i < l.length := (List.getElem?_eq_some_iff.1 hx).1
  have hj : j < cs.length := (List.getElem?_eq_some_iff.1 ha).1
  obtain ⟨x1, x2, x3⟩ := gx
  obtain ⟨a1, a2, a3, a4, a5, a6⟩ := ga
  simp only [TLine.pl, TActor.pa] at x1 x2 x3 a1 a2 a3 a4 a5 a6
  have hpX : ∀ T0 : List AObj, x.inn ++ (a.inn ++ R) = T0 → ∀ X : AObj, (T0 ++ [X]).Perm (a.inn ++ (x.inn ++ ([X] ++ R))) := fun T0 hT X => by
    subst hT
    simp only [List.append_assoc]
    exact (List.perm_append_comm_assoc ..).trans ((List.Perm.refl _).append ((List.Perm.refl _).append List.perm_append_comm))
  have hlX : ∀ T0 : List AObj, x.inn ++ (a.inn ++ R) = T0 → ∀ X : AObj, (a.inn ++ (x.inn ++ R)).length ≤ (T0 ++ [X]).length := fun T0 hT X => by subst hT; simp; omega
  have sx : (l.map TLine.encO).set i (encX 2 x) = (l.map TLine.encO).set i (encX 2 x) := rfl
  refine con_in (args' := [.ref 0 tl 4 l.length, .ptr 1 ta 7 j 0]) (Hm := ⟨false, tl, 4, l.map TLine.encO⟩ :: ⟨false, ta, 7, cs.map TActor.encO⟩ :: (x.inn ++ (a.inn ++ R))) (H' := ⟨false, tl, 4, (l.map TLine.encO).set i (encX 2 x)⟩ :: ⟨false, ta, 7, (cs.map TActor.encO).set j (encY 3 a)⟩ :: (x.inn ++ (a.inn ++ R))) ?_ (Views.refl _ _) (.cons _ (.cons _ (List.perm_append_comm_assoc ..))) (.cons (ren_line tl i 2 hx) (.cons (ren_actor ta j 3 ha) (.refl _ _)))
  refine con_of c171 (by simp [F171]) ?_
  unfold F171
  have w4 : IntKind.i64.wrap 1 = 1 := by decide
  by_cases hs0 : a.State = 0
  · generalize hT : x.inn ++ (a.inn ++ R) = T0
    have hA0 := a5 hs0
    by_cases hp : x.Seq.tmod 2 = 0
    · simp [encX, encY, hi, hj, hL, putA, hs0, hp]
      exact fin_turned2 (k1 := 2) (k2 := 3) (x' := x) (a' := ⟨a.Writer, i, a.Version, a.Words, 1, a.At, x.Seq⟩) (by simp [acc, TLine.pl, TActor.pa, hs0, hw, hp, hL, hA0]) rfl rfl (hpX T0 hT _) (hlX T0 hT _) rfl rfl rfl (tidy1 (tidyX _ _ _ _ (free_atI _ _ _)))
    · have hp1 : x.Seq.tmod 2 = 1 := by rw [Int.tmod_eq_emod_of_nonneg x1] at hp ⊢; omega
      simp [encX, encY, hi, hj, hL, putA, hs0, hp]
      exact fin_turned2 (k1 := 2) (k2 := 3) (x' := x) (a' := ⟨a.Writer, i, a.Version, a.Words, 3, a.At, a.Seq⟩) (by simp [acc, TLine.pl, TActor.pa, hs0, hw, hp1, hL, hA0]) rfl rfl (hpX T0 hT _) (hlX T0 hT _) rfl rfl rfl (tidy1 (tidyX _ _ _ _ (free_atI _ _ _)))
  by_cases hs1 : a.State = 1
  · by_cases h0 : a.At = 0
    · generalize hT : x.inn ++ (a.inn ++ R) = T0
      by_cases hv : x.Version = a.Version
      · simp [encX, encY, hi, hj, hL, putA, hs0, hs1, h0, hv]
        exact fin_turned2 (k1 := 2) (k2 := 3) (x' := x) (a' := ⟨a.Writer, i, a.Version, a.Words, 1, 1, a.Seq⟩) (by simp [acc, TLine.pl, TActor.pa, hs0, hs1, hw, hL, h0, hv]) rfl rfl (hpX T0 hT _) (hlX T0 hT _) (by simp [encX, hv]) rfl rfl (tidy1 (tidyX _ _ _ _ (free_atI _ _ _)))
      · simp [encX, encY, hi, hj, hL, putA, hs0, hs1, h0, hv]
        exact fin_turned2 (k1 := 2) (k2 := 3) (x' := x) (a' := ⟨a.Writer, i, a.Version, a.Words, 3, 0, a.Seq⟩) (by simp [acc, TLine.pl, TActor.pa, hs0, hs1, hw, hL, h0, hv]) rfl rfl (hpX T0 hT _) (hlX T0 hT _) rfl rfl rfl (tidy1 (tidyX _ _ _ _ (free_atI _ _ _)))
    by_cases h1 : a.At ≤ x.Words.list.length
    · obtain ⟨m, hm⟩ : ∃ m : Nat, a.At = (m : Int) + 1 := ⟨(a.At - 1).toNat, by omega⟩
      cases hX : x.Words with
      | nil => rw [hX] at h1; simp at h1; omega
      | mk tx wx =>
        rw [hX] at h1 x3
        simp only [SL.list_mk] at h1 x3
        have hmm : m < wx.length := by omega
        have hv : wx[m]? = some wx[m] := List.getElem?_eq_getElem hmm
        have hg : ((m : Int) + 1 - 1) = m := by omega
        have h1' : (m : Int) + 1 ≤ wx.length := by omega
        have h0' : ¬ (m : Int) + 1 = 0 := by omega
        have w5 : IntKind.i64.wrap (m : Int) = m := wrap64 (by omega) (by omega)
        have w7 : IntKind.i64.wrap ((m : Int) + 1 + 1) = m + 1 + 1 := wrap64 (by omega) (by omega)
        have m1 : (a.Words.list.length + 1) * 8 ≤ 140737488355328 := by omega
        have m2 : a.Words.list.length + 1 ≤ mx := by unfold mx; omega
        have hacc : ∀ t, (TLine.pl ⟨x.Seq, x.Owner, x.Version, .mk tx wx⟩, TActor.pa ⟨a.Writer, i, a.Version, .mk t (a.Words.list ++ [wx[m]]), 1, m + 1 + 1, a.Seq⟩) = acc me x.pl a.pa := fun t => by
          simp [acc, TLine.pl, TActor.pa, hs1, hw, hm, hX, h0', h1', hv, hL]
        generalize wx[m] = v at hv hacc
        cases hA : a.Words with
        | nil =>
          simp [encX, encY, hi, hj, hL, hs0, hs1, hm, h0', h1', putA, w5, w7, hg, hA, hX, SL.at_, TActor.inn, TLine.inn, flat_wood]
          rw [hA] at m1 m2 hacc
          simp only [SL.list_nil, SL.list_mk, List.nil_append] at m1 m2 hacc
          refine ⟨hmm, v, hv, ?_⟩
          simp [encX, encY, hi, hj, hL, hm, putA, w7, m1, m2]
          refine ⟨by unfold mx; omega, ?_⟩
          exact fin_turned2 (k1 := 2) (k2 := R.length + 2 + 1 + 1 + 1) (hacc (c + 1 + 1)) (flat_wood ..) (flat_wood ..) ((pT_nil _ _ _ _ _).trans (List.perm_append_comm_assoc ..)) (by simp [TActor.inn, TLine.inn, hA, hX, flat_wood]) rfl rfl rfl (tidyC (tidyX _ _ _ _ (free_r _ _ _ _)) (tidy1 (tidyB _ _)))
        | mk tw wa =>
          simp [encX, encY, hi, hj, hL, hs0, hs1, hm, h0', h1', putA, w5, w7, hg, hA, hX, SL.at_, TActor.inn, TLine.inn, flat_wood]
          rw [hA] at m1 m2 hacc
          simp only [SL.list_nil, SL.list_mk, List.nil_append] at m1 m2 hacc
          refine ⟨hmm, v, hv, ?_⟩
          simp [encX, encY, hi, hj, hL, hm, putA, w7, m1, m2]
          exact fin_turned2 (k1 := 2) (k2 := 3) (hacc (c + 1 + 1)) (by simp [TActor.inn, flat_wood, encI]) (flat_wood ..) ((pT_mk _ _ _ _ _).trans (List.perm_append_comm_assoc ..)) (by simp [TActor.inn, TLine.inn, hA, hX, flat_wood]) rfl (by simp [encY, SL.at_]) rfl (tidyC (tidyX _ _ _ _ (free_r _ _ _ _)) (tidy1 (tidyB _ _)))
    · generalize hT : x.inn ++ (a.inn ++ R) = T0
      by_cases hq : x.Seq = a.Seq
      · simp [encX, encY, hi, hj, hL, putA, hs0, hs1, h0, h1, hq]
        exact fin_turned2 (k1 := 2) (k2 := 3) (x' := x) (a' := ⟨a.Writer, i, a.Version, a.Words, 2, a.At, a.Seq⟩) (by simp [acc, TLine.pl, TActor.pa, hs0, hs1, hw, hL, h0, h1, hq]) rfl rfl (hpX T0 hT _) (hlX T0 hT _) (by simp [encX, hq]) rfl rfl (tidy1 (tidyX _ _ _ _ (free_atI _ _ _)))
      · simp [encX, encY, hi, hj, hL, putA, hs0, hs1, h0, h1, hq]
        exact fin_turned2 (k1 := 2) (k2 := 3) (x' := x) (a' := ⟨a.Writer, i, a.Version, a.Words, 3, a.At, a.Seq⟩) (by simp [acc, TLine.pl, TActor.pa, hs0, hs1, hw, hL, h0, h1, hq]) rfl rfl (hpX T0 hT _) (hlX T0 hT _) rfl rfl rfl (tidy1 (tidyX _ _ _ _ (free_atI _ _ _)))
  · generalize hT : x.inn ++ (a.inn ++ R) = T0
    simp [encX, encY, hi, hj, hL, putA, hs0, hs1]
    exact fin_turned2 (k1 := 2) (k2 := 3) (x' := x) (a' := ⟨a.Writer, i, a.Version, a.Words, a.State, a.At, a.Seq⟩) (by simp [acc, TLine.pl, TActor.pa, hs0, hs1, hw, hL]) rfl rfl (hpX T0 hT _) (hlX T0 hT _) rfl rfl rfl (tidy1 (tidyX _ _ _ _ (free_atI _ _ _)))
end A
end Go.Proofs.Ytgiiipbpadgcgaa

/-
  One access of an actor, of the program and of the reference. No condition.
-/

namespace Go.Proofs.Ytgiiipbpadgcgaa
namespace A
set_option linter.unusedVariables false
set_option linter.unusedSimpArgs false
set_option maxRecDepth 100000

theorem perm_line {l : List TLine} {i : Nat} {x : TLine} (h : l[i]? = some x) : (inns l).Perm (x.inn ++ (inns (l.take i) ++ inns (l.drop (i + 1)))) := by
  obtain ⟨hi, rfl⟩ := List.getElem?_eq_some_iff.1 h
  rw [inns_at hi]
  exact List.perm_append_comm_assoc ..
theorem perm_line' {l : List TLine} {i : Nat} (h : i < l.length) (x : TLine) : (inns (l.set i x)).Perm (x.inn ++ (inns (l.take i) ++ inns (l.drop (i + 1)))) := by
  rw [inns_set h]
  exact List.perm_append_comm_assoc ..
theorem innA_app (l m : List TActor) : innA (l ++ m) = innA l ++ innA m := List.flatMap_append ..
theorem innA_cons (x : TActor) (l : List TActor) : innA (x :: l) = x.inn ++ innA l := List.flatMap_cons ..
theorem innA_at {l : List TActor} {i : Nat} (h : i < l.length) : innA l = innA (l.take i) ++ (l[i].inn ++ innA (l.drop (i + 1))) := by
  rw [← innA_cons, ← List.drop_eq_getElem_cons h, ← innA_app, List.take_append_drop]
theorem innA_set {l : List TActor} {i : Nat} (h : i < l.length) (z : TActor) : innA (l.set i z) = innA (l.take i) ++ (z.inn ++ innA (l.drop (i + 1))) := by
  rw [List.set_eq_take_append_cons_drop, if_pos h, innA_app, innA_cons]
theorem perm_actor {l : List TActor} {i : Nat} {x : TActor} (h : l[i]? = some x) : (innA l).Perm (x.inn ++ (innA (l.take i) ++ innA (l.drop (i + 1)))) := by
  obtain ⟨hi, rfl⟩ := List.getElem?_eq_some_iff.1 h
  rw [innA_at hi]
  exact List.perm_append_comm_assoc ..
theorem perm_actor' {l : List TActor} {i : Nat} (h : i < l.length) (x : TActor) : (innA (l.set i x)).Perm (x.inn ++ (innA (l.take i) ++ innA (l.drop (i + 1)))) := by
  rw [innA_set h]
  exact List.perm_append_comm_assoc ..
theorem perm5 (X Rl A' Ra G : List AObj) : ((X ++ Rl) ++ ((A' ++ Ra) ++ G)).Perm (A' ++ (X ++ (Rl ++ (Ra ++ G)))) := by
  simp only [List.append_assoc]
  refine (List.Perm.append_left X (List.perm_append_comm_assoc ..)).trans ?_
  exact List.perm_append_comm_assoc ..
theorem perm6 (Rl Ra J G : List AObj) : (J ++ (Rl ++ (Ra ++ G))).Perm (Rl ++ (Ra ++ (J ++ G))) :=
  (List.perm_append_comm_assoc ..).trans (List.Perm.append_left _ (List.perm_append_comm_assoc ..))

/-- An access has been made. -/
def AccQ (tl ta j : Nat) (l : List TLine) (cs : List TActor) (G : List AObj) (r : AV) (O : List AObj) : Prop :=
  r = .tup [] ∧ ∃ (l' : List TLine) (cs' : List TActor) (T J : List AObj), (l'.map TLine.pl, cs'.map TActor.pa) = accAt j (l.map TLine.pl, cs.map TActor.pa) ∧ O = ⟨false, tl, 4, l'.map TLine.encO⟩ :: ⟨false, ta, 7, cs'.map TActor.encO⟩ :: T ∧
    T.Perm (inns l' ++ (innA cs' ++ (J ++ G))) ∧ (inns l ++ (innA cs ++ G)).length ≤ T.length ∧ ∀ o, o ∈ J → ∀ T, AvRows T o

theorem perm_in {l : List TLine} {cs : List TActor} {i j : Nat} {x : TLine} {a : TActor} (hx : l[i]? = some x) (ha : cs[j]? = some a) (G : List AObj) :
    (a.inn ++ (x.inn ++ ((inns (l.take i) ++ inns (l.drop (i + 1))) ++ ((innA (cs.take j) ++ innA (cs.drop (j + 1))) ++ G)))).Perm (inns l ++ (innA cs ++ G)) :=
  ((perm5 _ _ _ _ _).symm).trans ((perm_line hx).symm.append ((perm_actor ha).symm.append (.refl _)))
theorem turned_acc {tl ta i j : Nat} {l : List TLine} {cs : List TActor} {x : TLine} {a : TActor} {G O : List AObj} {r : AV} (hx : l[i]? = some x) (ha : cs[j]? = some a) (hL : a.Line = i)
    (h : Turned tl ta i j l cs x a ((j : Int) + 1) ((inns (l.take i) ++ inns (l.drop (i + 1))) ++ ((innA (cs.take j) ++ innA (cs.drop (j + 1))) ++ G)) r O) : AccQ tl ta j l cs G r O := by
  obtain ⟨h1, x', a', T, J, he, hO, hp, hl, hJ⟩ := h
  have hi : i < l.length := (List.getElem?_eq_some_iff.1 hx).1
  have hj : j < cs.length := (List.getElem?_eq_some_iff.1 ha).1
  refine ⟨h1, l.set i x', cs.set j a', T, J, ?_, hO, ?_, ?_, hJ⟩
  · have e1 : (cs.map TActor.pa)[j]? = some a.pa := by simp [ha]
    have e2 : (l.map TLine.pl)[(a.pa).Line.toNat]? = some x.pl := by simp [TActor.pa, hL, hx]
    unfold accAt
    simp only [e1, e2]
    rw [← he]
    simp [List.map_set, TActor.pa, hL]
  · refine hp.trans ?_
    refine List.Perm.trans ?_ ((perm5 x'.inn (inns (l.take i) ++ inns (l.drop (i + 1))) a'.inn (innA (cs.take j) ++ innA (cs.drop (j + 1))) (J ++ G)).symm.trans ((perm_line' hi x').symm.append ((perm_actor' hj a').symm.append (.refl _))))
    exact List.Perm.append_left _ (List.Perm.append_left _ (perm6 _ _ _ _))
  · rw [← (perm_in hx ha G).length_eq]; exact hl

/-- Nothing has changed. -/
theorem acc_same {tl ta j : Nat} {l : List TLine} {cs : List TActor} {G T J : List AObj} {v : AV} (hv : v = .tup []) (h : accAt j (l.map TLine.pl, cs.map TActor.pa) = (l.map TLine.pl, cs.map TActor.pa)) (hT : T.Perm (inns l ++ (innA cs ++ (J ++ G)))) (hlen : (inns l ++ (innA cs ++ G)).length ≤ T.length) (hJ : ∀ o, o ∈ J → ∀ T, AvRows T o) :
    AccQ tl ta j l cs G v (⟨false, tl, 4, l.map TLine.encO⟩ :: ⟨false, ta, 7, cs.map TActor.encO⟩ :: T) := ⟨hv, l, cs, T, J, h.symm, rfl, hT, hlen, hJ⟩

theorem tidy_inns (l : List TLine) : ∀ o, o ∈ inns l → ∀ T, AvRows T o := fun o ho => by
  obtain ⟨x, _, hx⟩ := List.mem_flatMap.1 ho
  exact tidyI x.Words o hx
theorem tidy_innA (l : List TActor) : ∀ o, o ∈ innA l → ∀ T, AvRows T o := fun o ho => by
  obtain ⟨x, _, hx⟩ := List.mem_flatMap.1 ho
  exact tidyI x.Words o hx
theorem tidy_L (t : Nat) (l : List TLine) : ∀ T, AvRows T ⟨false, t, 4, l.map TLine.encO⟩ := fun T => avRows_of fun row hr a ha => by
  obtain ⟨x, _, rfl⟩ := List.mem_map.1 hr
  exact TLine.freeO x a ha T
theorem TActor.freeO : ∀ (x : TActor) a, a ∈ x.encO → Free a := fun x a ha => by
  simp [TActor.encO] at ha
  rcases ha with rfl | rfl | rfl | rfl | rfl | rfl | rfl
  · exact free_bool _
  · exact free_int _ _
  · exact free_int _ _
  · exact free_ref _ _
  · exact free_int _ _
  · exact free_int _ _
  · exact free_int _ _
theorem tidy_A (t : Nat) (l : List TActor) : ∀ T, AvRows T ⟨false, t, 7, l.map TActor.encO⟩ := fun T => avRows_of fun row hr a ha => by
  obtain ⟨x, _, rfl⟩ := List.mem_map.1 hr
  exact TActor.freeO x a ha T
theorem accQ_tidy {tl ta j : Nat} {l : List TLine} {cs : List TActor} {G O : List AObj} {r : AV} (h : AccQ tl ta j l cs G r O) (hG : ∀ o, o ∈ G → ∀ T, AvRows T o) : Av [] r ∧ ∀ o, o ∈ O → AvRows [] o := by
  obtain ⟨rfl, l', cs', T, J, _, rfl, hp, _, hJ⟩ := h
  refine ⟨.tup (by simp), fun o ho => ?_⟩
  exact tidyC (tidy_L tl l') (tidyC (tidy_A ta cs') fun o ho => tidyA (tidy_inns l') (tidyA (tidy_innA cs') (tidyA hJ hG)) o (hp.mem_iff.1 ho)) o ho []

theorem fin_acc {tl ta i j c : Nat} {l : List TLine} {cs : List TActor} {x : TLine} {a : TActor} {G T0 : List AObj} {v : AV} {rows1 rows2 : List (List AV)} (hx : l[i]? = some x) (ha : cs[j]? = some a) (hL : a.Line = i) (x' : TLine) (a' : TActor)
    (he : (x'.pl, a'.pa) = acc ((j : Int) + 1) x.pl a.pa) (hX : x'.inn = x.inn) (hA : a'.inn = a.inn) (hT : inns l ++ (innA cs ++ G) = T0) (e1 : rows1 = (l.map TLine.encO).set i x'.encO) (e2 : rows2 = (cs.map TActor.encO).set j a'.encO) (hv : v = .tup []) :
    finW (fun r O _ => AccQ tl ta j l cs G r O) v (⟨false, tl, 4, rows1⟩ :: ⟨false, ta, 7, rows2⟩ :: T0) c := by
  subst hT; subst e1; subst e2
  have hp := perm_in hx ha G
  refine fin_all (turned_acc hx ha hL ⟨hv, x', a', _, [], he, by rw [List.map_set, List.map_set], ?_, ?_, tidy0⟩)
  · rw [hX, hA]; exact hp.symm
  · rw [hp.length_eq]; exact Nat.le_refl _
theorem fin_none {tl ta j c : Nat} {l : List TLine} {cs : List TActor} {a : TActor} {G : List AObj} {v : AV} {rows2 : List (List AV)} (ha : cs[j]? = some a)
    (he : accAt j (l.map TLine.pl, cs.map TActor.pa) = (l.map TLine.pl, cs.map TActor.pa)) (e2 : rows2 = (cs.map TActor.encO).set j a.encO) (hv : v = .tup []) :
    finW (fun r O _ => AccQ tl ta j l cs G r O) v (⟨false, tl, 4, l.map TLine.encO⟩ :: ⟨false, ta, 7, rows2⟩ :: (inns l ++ (innA cs ++ G))) c := by
  have eA : (cs.map TActor.encO).set j a.encO = cs.map TActor.encO := set_same (by simp [ha])
  subst e2
  rw [eA]
  exact fin_all (acc_same (J := []) hv he (.refl _) (Nat.le_refl _) tidy0)

theorem impl_access {tl ta j c n : Nat} {l : List TLine} {cs : List TActor} {G : List AObj} (hn : n ≤ 2097152) (hj : j < cs.length) (hg : Gd n (l.map TLine.pl, cs.map TActor.pa)) (hG : ∀ o, o ∈ G → ∀ T, AvRows T o) (hll : l.length ≤ 1048576) (hlc : cs.length ≤ 1048576) :
    Con Try.prog 120 [.ref 0 tl 4 l.length, .ref 1 ta 7 cs.length, .int .i64 j] (⟨false, tl, 4, l.map TLine.encO⟩ :: ⟨false, ta, 7, cs.map TActor.encO⟩ :: (inns l ++ (innA cs ++ G))) c fun r O _ => AccQ tl ta j l cs G r O := by
  have ha : cs[j]? = some cs[j] := List.getElem?_eq_getElem hj
  generalize cs[j] = a at ha
  have ga : GdA n a.pa := hg.a _ (List.mem_map.2 ⟨a, List.mem_of_getElem? ha, rfl⟩)
  have eA : (cs.map TActor.encO).set j a.encO = cs.map TActor.encO := set_same (by simp [ha])
  have e1 : (cs.map TActor.pa)[j]? = some a.pa := by simp [ha]
  have g0 := ga.l0
  have g0' : 0 ≤ a.Line := g0
  obtain ⟨i, hL⟩ := Int.eq_ofNat_of_zero_le g0'
  rw [← eA]
  refine con_of c120 (by simp [F120]) ?_
  unfold F120
  have hw1 : IntKind.i64.wrap ((j : Int) + 1) = j + 1 := wrap64 (by omega) (by omega)
  by_cases hil : i < l.length
  · have hx : l[i]? = some l[i] := List.getElem?_eq_getElem hil
    generalize l[i] = x at hx
    have hil' : ¬ l.length ≤ i := by omega
    have gx : GdL n x.pl := hg.l _ (List.mem_map.2 ⟨x, List.mem_of_getElem? hx, rfl⟩)
    have gs0 : 0 ≤ x.Seq := gx.s0
    have gs1 : x.Seq ≤ 1000000000000 + n := gx.s1
    have hw3 : IntKind.i64.wrap (x.Seq + 1) = x.Seq + 1 := wrap64 (by omega) (by omega)
    have eL : (l.map TLine.encO).set i x.encO = l.map TLine.encO := set_same (by simp [hx])
    rw [← eL]
    by_cases hs0 : a.State = 0
    · have hA0 : a.At = 0 := ga.r hs0
      generalize hT : inns l ++ (innA cs ++ G) = T0
      by_cases hp : x.Seq.tmod 2 = 1
      · by_cases hw : a.Writer = true
        · simp [TLine.encO, TActor.encO, hj, hil, hil', hL, hs0, hp, hw, putA]
          exact fin_acc hx ha hL x ⟨true, i, a.Version, a.Words, 0, a.At, a.Seq⟩ (by simp [acc, TLine.pl, TActor.pa, hs0, hp, hw, hL]) rfl rfl hT rfl rfl rfl
        · have hw : a.Writer = false := by simpa using hw
          simp [TLine.encO, TActor.encO, hj, hil, hil', hL, hs0, hp, hw, putA]
          exact fin_acc hx ha hL x ⟨false, i, a.Version, a.Words, 3, a.At, a.Seq⟩ (by simp [acc, TLine.pl, TActor.pa, hs0, hp, hw, hL]) rfl rfl hT rfl rfl rfl
      · by_cases hw : a.Writer = true
        · simp [TLine.encO, TActor.encO, hj, hil, hil', hL, hs0, hp, hw, putA, hw1, hw3]
          exact fin_acc hx ha hL ⟨x.Seq + 1, j + 1, x.Version, x.Words⟩ ⟨true, i, a.Version, a.Words, 1, 0, a.Seq⟩ (by simp [acc, TLine.pl, TActor.pa, hs0, hp, hw, hL]) rfl rfl hT rfl rfl rfl
        · have hw : a.Writer = false := by simpa using hw
          simp [TLine.encO, TActor.encO, hj, hil, hil', hL, hs0, hp, hw, putA]
          exact fin_acc hx ha hL x ⟨false, i, a.Version, a.Words, 1, 0, x.Seq⟩ (by simp [acc, TLine.pl, TActor.pa, hs0, hp, hw, hL]) rfl rfl hT rfl rfl rfl
    by_cases hs1 : a.State = 1
    · by_cases hw : a.Writer = true
      · have key := fun c => con_in (impl_write (tl := tl) (ta := ta) (c := c) (R := (inns (l.take i) ++ inns (l.drop (i + 1))) ++ ((innA (cs.take j) ++ innA (cs.drop (j + 1))) ++ G)) hn hx ha gx ga hs1 hw ((j : Int) + 1)) (Views.refl _ _) (.cons _ (.cons _ (perm_in hx ha G))) (.refl _ _)
        rw [← eL, ← eA] at key
        simp only [TLine.encO, TActor.encO, hL, hs1, hw] at key
        simp [TLine.encO, TActor.encO, hj, hil, hil', hL, hs0, hs1, hw, putA]
        refine call_con (key _) fun r H' c' hc hq ho hd => ?_
        have hq := turned_acc hx ha hL hq
        obtain ⟨t1, t2⟩ := accQ_tidy hq hG
        refine ⟨t1, t2, ?_⟩
        obtain ⟨_, q2⟩ := hq
        simp
        exact fin_all ⟨rfl, q2⟩
      · have hw : a.Writer = false := by simpa using hw
        have key := fun c => con_in (impl_read (tl := tl) (ta := ta) (c := c) (R := (inns (l.take i) ++ inns (l.drop (i + 1))) ++ ((innA (cs.take j) ++ innA (cs.drop (j + 1))) ++ G)) hn hx ha gx ga hs1 hw ((j : Int) + 1)) (Views.refl _ _) (.cons _ (.cons _ (perm_in hx ha G))) (.refl _ _)
        rw [← eL, ← eA] at key
        simp only [TLine.encO, TActor.encO, hL, hs1, hw] at key
        simp [TLine.encO, TActor.encO, hj, hil, hil', hL, hs0, hs1, hw, putA]
        refine call_con (key _) fun r H' c' hc hq ho hd => ?_
        have hq := turned_acc hx ha hL hq
        obtain ⟨t1, t2⟩ := accQ_tidy hq hG
        refine ⟨t1, t2, ?_⟩
        obtain ⟨_, q2⟩ := hq
        simp
        exact fin_all ⟨rfl, q2⟩
    · generalize hT : inns l ++ (innA cs ++ G) = T0
      simp [TLine.encO, TActor.encO, hj, hil, hil', hL, hs0, hs1, putA]
      exact fin_acc hx ha hL x ⟨a.Writer, i, a.Version, a.Words, a.State, a.At, a.Seq⟩ (by simp [acc, TLine.pl, TActor.pa, hs0, hs1, hL]) rfl rfl hT rfl rfl rfl
  · have hil' : l.length ≤ i := by omega
    have hno : accAt j (l.map TLine.pl, cs.map TActor.pa) = (l.map TLine.pl, cs.map TActor.pa) := by
      unfold accAt
      have e2 : (l.map TLine.pl)[(a.pa).Line.toNat]? = none := by simp [TActor.pa, hL]; omega
      simp only [e1, e2]
    by_cases hs0 : a.State = 0
    · simp [TLine.encO, TActor.encO, hj, hil, hil', hL, hs0, putA]
      exact fin_none ha hno (by simp [TActor.encO, hL, hs0]) rfl
    by_cases hs1 : a.State = 1
    · simp [TLine.encO, TActor.encO, hj, hil, hil', hL, hs0, hs1, putA]
      exact fin_none ha hno (by simp [TActor.encO, hL, hs1]) rfl
    · simp [TLine.encO, TActor.encO, hj, hil, hil', hL, hs0, hs1, putA]
      exact fin_none ha hno (by simp [TActor.encO, hL]) rfl
end A
end Go.Proofs.Ytgiiipbpadgcgaa

/-
  One access of an actor, of the reference. No condition.
-/

namespace Go.Proofs.Ytgiiipbpadgcgaa
namespace A
set_option linter.unusedVariables false
set_option linter.unusedSimpArgs false
set_option maxRecDepth 100000

/-- What stands behind the call that is handed the actor's copy. -/
def MidQ (tl ta tv i : Nat) (n0 : Nat) (l : List TLine) (cs : List TActor) (x : TLine) (a : TActor) (me : Int) (R : List AObj) (r : AV) (O : List AObj) : Prop :=
  r = .tup [] ∧ ∃ (x' : TLine) (a' : TActor) (T1 T2 J : List AObj), (x'.pl, a'.pa) = acc me x.pl a.pa ∧ T1.length = n0 ∧ O = ⟨false, tl, 4, (l.set i x').map TLine.encO⟩ :: ⟨false, ta, 7, cs.map TActor.encO⟩ :: (T1 ++ ⟨false, tv, 7, [a'.encO]⟩ :: T2) ∧
    (T1 ++ T2).Perm (a'.inn ++ (x'.inn ++ (J ++ R))) ∧ ∀ o, o ∈ J → ∀ T, AvRows T o
theorem turned_mid {tl ta tv i : Nat} {l : List TLine} {cs : List TActor} {x : TLine} {a : TActor} {me : Int} {R O : List AObj} {r : AV} (h : Turned tl tv i 0 l [a] x a me (⟨false, ta, 7, cs.map TActor.encO⟩ :: R) r O) :
    ∃ Hs H2, Hs.Sublist O ∧ H2.Perm Hs ∧ MidQ tl ta tv i (a.inn ++ (x.inn ++ R)).length l cs x a me R r H2 := by
  obtain ⟨h1, x', a', T, J, he, hO, hp, hl, hJ⟩ := h
  have hp2 : T.Perm (⟨false, ta, 7, cs.map TActor.encO⟩ :: (a'.inn ++ (x'.inn ++ (J ++ R)))) := by
    refine hp.trans ?_
    refine List.Perm.trans ?_ List.perm_middle
    refine List.Perm.append_left _ ?_
    refine List.Perm.trans ?_ List.perm_middle
    refine List.Perm.append_left _ ?_
    exact List.perm_middle
  have hlen := hp2.length_eq
  generalize hZ : a'.inn ++ (x'.inn ++ (J ++ R)) = Z at hp2 hlen
  have hn : (a.inn ++ (x.inn ++ R)).length ≤ Z.length := by simp at hl hlen ⊢; omega
  refine ⟨O, _, List.Sublist.refl _, ?_, h1, x', a', Z.take (a.inn ++ (x.inn ++ R)).length, Z.drop (a.inn ++ (x.inn ++ R)).length, J, he, by rw [List.length_take]; omega, rfl, by rw [List.take_append_drop, hZ], hJ⟩
  subst hO
  refine List.Perm.cons _ ?_
  have e : (([a].set 0 a').map TActor.encO) = [a'.encO] := rfl
  rw [e]
  refine ((List.Perm.cons _ (List.perm_middle.trans (List.Perm.cons _ (by rw [List.take_append_drop])))).trans (List.Perm.swap _ _ _)).trans ?_
  exact List.Perm.cons _ hp2.symm
theorem mid_acc {tl ta i j : Nat} {l : List TLine} {cs : List TActor} {x : TLine} {a a' : TActor} {x' : TLine} {G T1 T2 J : List AObj} {tv : Nat} {v : AV} (hv : v = .tup []) (hx : l[i]? = some x) (ha : cs[j]? = some a) (hL : a.Line = i)
    (he : (x'.pl, a'.pa) = acc ((j : Int) + 1) x.pl a.pa) (hn : T1.length = (inns l ++ (innA cs ++ G)).length)
    (hp : (T1 ++ T2).Perm (a'.inn ++ (x'.inn ++ (J ++ ((inns (l.take i) ++ inns (l.drop (i + 1))) ++ ((innA (cs.take j) ++ innA (cs.drop (j + 1))) ++ G)))))) (hJ : ∀ o, o ∈ J → ∀ T, AvRows T o) :
    AccQ tl ta j l cs G v (⟨false, tl, 4, (l.set i x').map TLine.encO⟩ :: ⟨false, ta, 7, (cs.set j a').map TActor.encO⟩ :: (T1 ++ ⟨false, tv, 7, [a'.encO]⟩ :: T2)) := by
  refine turned_acc hx ha hL ⟨hv, x', a', _, ⟨false, tv, 7, [a'.encO]⟩ :: J, he, rfl, ?_, ?_, tidyC (tidy_A tv [a']) hJ⟩
  · refine List.perm_middle.trans ((List.Perm.cons _ hp).trans ?_)
    refine List.Perm.trans List.perm_middle.symm ?_
    refine List.Perm.append_left _ ?_
    exact List.perm_middle.symm
  · rw [(perm_in hx ha G).length_eq]; simp at hn ⊢; omega

theorem perm_mid_in (A' V : AObj) {P Q R T0 : List AObj} (h : (P ++ (Q ++ R)).Perm T0) : (V :: (P ++ (Q ++ (A' :: R)))).Perm (A' :: (T0 ++ [V])) := by
  have h1 : (P ++ (Q ++ (A' :: R))).Perm (A' :: (P ++ (Q ++ R))) := (List.Perm.append_left _ List.perm_middle).trans List.perm_middle
  refine ((List.Perm.cons _ h1).trans (List.Perm.swap _ _ _)).trans (List.Perm.cons _ ?_)
  exact ((List.Perm.cons _ h).trans (List.perm_append_singleton _ _).symm)

theorem spec_access {tl ta j c n : Nat} {l : List TLine} {cs : List TActor} {G : List AObj} (hn : n ≤ 2097152) (hj : j < cs.length) (hg : Gd n (l.map TLine.pl, cs.map TActor.pa)) (hG : ∀ o, o ∈ G → ∀ T, AvRows T o) (hll : l.length ≤ 1048576) (hlc : cs.length ≤ 1048576) :
    Con Try.prog 152 [.ref 0 tl 4 l.length, .ref 1 ta 7 cs.length, .int .i64 j] (⟨false, tl, 4, l.map TLine.encO⟩ :: ⟨false, ta, 7, cs.map TActor.encO⟩ :: (inns l ++ (innA cs ++ G))) c fun r O _ => AccQ tl ta j l cs G r O := by
  have ha : cs[j]? = some cs[j] := List.getElem?_eq_getElem hj
  generalize cs[j] = a at ha
  have ga : GdA n a.pa := hg.a _ (List.mem_map.2 ⟨a, List.mem_of_getElem? ha, rfl⟩)
  have eA : (cs.map TActor.encO).set j a.encO = cs.map TActor.encO := set_same (by simp [ha])
  have e1 : (cs.map TActor.pa)[j]? = some a.pa := by simp [ha]
  have g0 := ga.l0
  have g0' : 0 ≤ a.Line := g0
  obtain ⟨i, hL⟩ := Int.eq_ofNat_of_zero_le g0'
  rw [← eA]
  have hneg : ¬ (i : Int) < 0 := by omega
  have hw1 : IntKind.i64.wrap ((j : Int) + 1) = j + 1 := wrap64 (by omega) (by omega)
  refine con_of c152 (by simp [F152]) ?_
  unfold F152
  by_cases hil : i < l.length
  · have hx : l[i]? = some l[i] := List.getElem?_eq_getElem hil
    generalize l[i] = x at hx
    have hil' : ¬ l.length ≤ i := by omega
    have gx : GdL n x.pl := hg.l _ (List.mem_map.2 ⟨x, List.mem_of_getElem? hx, rfl⟩)
    have hperm := perm_in hx ha G
    by_cases hw : a.Writer = true
    · skip
      generalize hT : inns l ++ (innA cs ++ G) = T0 at hperm
      have key := fun c1 => con_perm (con_in (spec_write (tl := tl) (ta := c) (c := c1) (cs := [a]) (j := 0) (R := ⟨false, ta, 7, cs.map TActor.encO⟩ :: ((inns (l.take i) ++ inns (l.drop (i + 1))) ++ ((innA (cs.take j) ++ innA (cs.drop (j + 1))) ++ G))) hn hx rfl hL gx ga hw ((j : Int) + 1)) (.cons (.refl _) (.cons .namep (.cons (.refl _) .nil)) : Views [] [.ref 0 tl 4 l.length, .ptr (T0.length + 1 + 1) c 7 0 0, .int .i64 ((j : Int) + 1)] _) (.cons _ (perm_mid_in ⟨false, ta, 7, cs.map TActor.encO⟩ ⟨false, c, 7, [a].map TActor.encO⟩ hperm)) (.refl _ _)) (fun r H' c' h => turned_mid h)
      rw [← eA] at key
      simp only [List.map_cons, List.map_nil, TActor.encO, hL, hw] at key
      simp [TActor.encO, hj, hil, hil', hL, hw, putA, hneg, hw1]
      refine call_con (key _) fun r H' c' hc hq ho hd => ?_
      obtain ⟨rfl, x', a', T1, T2, J, he, hT1, hO, hp, hJ⟩ := hq
      rw [hperm.length_eq] at hT1
      subst hO
      refine ⟨.tup (by simp), fun o ho => ?_, ?_⟩
      · refine tidyC (tidy_L tl _) (tidyC (tidy_A ta cs) fun o ho => ?_) o ho []
        have ho' : o ∈ ⟨false, c, 7, [a'.encO]⟩ :: (T1 ++ T2) := (List.perm_middle (a := (⟨false, c, 7, [a'.encO]⟩ : AObj)) (l₁ := T1) (l₂ := T2)).mem_iff.1 ho
        refine tidyC (tidy_A c [a']) (fun o ho => ?_) o ho'
        exact tidyA (tidyI a'.Words) (tidyA (tidyI x'.Words) (tidyA hJ (tidyA (tidyA (tidy_inns _) (tidy_inns _)) (tidyA (tidyA (tidy_innA _) (tidy_innA _)) hG)))) o (hp.mem_iff.1 ho)
      · rw [← hT1, ← eA]
        simp [hj, hL, hw, putA, TActor.encO]
        have := mid_acc (tl := tl) (ta := ta) (tv := c) (v := oneOf []) rfl hx ha hL he (by rw [hT]; exact hT1) hp hJ
        rw [List.map_set, List.map_set] at this
        exact fin_all this
    · have hw : a.Writer = false := by simpa using hw
      generalize hT : inns l ++ (innA cs ++ G) = T0 at hperm
      have key := fun c1 => con_perm (con_in (spec_read (tl := tl) (ta := c) (c := c1) (cs := [a]) (j := 0) (R := ⟨false, ta, 7, cs.map TActor.encO⟩ :: ((inns (l.take i) ++ inns (l.drop (i + 1))) ++ ((innA (cs.take j) ++ innA (cs.drop (j + 1))) ++ G))) hn hx rfl hL gx ga hw ((j : Int) + 1)) (.cons (.refl _) (.cons .namep .nil) : Views [] [.ref 0 tl 4 l.length, .ptr (T0.length + 1 + 1) c 7 0 0] _) (.cons _ (perm_mid_in ⟨false, ta, 7, cs.map TActor.encO⟩ ⟨false, c, 7, [a].map TActor.encO⟩ hperm)) (.refl _ _)) (fun r H' c' h => turned_mid h)
      rw [← eA] at key
      simp only [List.map_cons, List.map_nil, TActor.encO, hL, hw] at key
      simp [TActor.encO, hj, hil, hil', hL, hw, putA, hneg, hw1]
      refine call_con (key _) fun r H' c' hc hq ho hd => ?_
      obtain ⟨rfl, x', a', T1, T2, J, he, hT1, hO, hp, hJ⟩ := hq
      rw [hperm.length_eq] at hT1
      subst hO
      refine ⟨.tup (by simp), fun o ho => ?_, ?_⟩
      · refine tidyC (tidy_L tl _) (tidyC (tidy_A ta cs) fun o ho => ?_) o ho []
        have ho' : o ∈ ⟨false, c, 7, [a'.encO]⟩ :: (T1 ++ T2) := (List.perm_middle (a := (⟨false, c, 7, [a'.encO]⟩ : AObj)) (l₁ := T1) (l₂ := T2)).mem_iff.1 ho
        refine tidyC (tidy_A c [a']) (fun o ho => ?_) o ho'
        exact tidyA (tidyI a'.Words) (tidyA (tidyI x'.Words) (tidyA hJ (tidyA (tidyA (tidy_inns _) (tidy_inns _)) (tidyA (tidyA (tidy_innA _) (tidy_innA _)) hG)))) o (hp.mem_iff.1 ho)
      · rw [← hT1, ← eA]
        simp [hj, hL, hw, putA, TActor.encO]
        have := mid_acc (tl := tl) (ta := ta) (tv := c) (v := oneOf []) rfl hx ha hL he (by rw [hT]; exact hT1) hp hJ
        rw [List.map_set, List.map_set] at this
        exact fin_all this
  · have hil' : l.length ≤ i := by omega
    have hno : accAt j (l.map TLine.pl, cs.map TActor.pa) = (l.map TLine.pl, cs.map TActor.pa) := by
      unfold accAt
      have e2 : (l.map TLine.pl)[(a.pa).Line.toNat]? = none := by simp [TActor.pa, hL]; omega
      simp only [e1, e2]
    generalize hT : inns l ++ (innA cs ++ G) = T0
    simp [TActor.encO, hj, hil, hil', hL, putA, hneg]
    have := acc_same (tl := tl) (ta := ta) (j := j) (v := oneOf []) (T := T0 ++ [⟨false, c, 7, [a.encO]⟩]) (J := [⟨false, c, 7, [a.encO]⟩]) rfl hno (by
      subst hT
      simp only [List.append_assoc]
      exact List.Perm.append_left _ (List.Perm.append_left _ List.perm_append_comm)) (by subst hT; simp) (tidy1 (tidy_A c [a]))
    rw [← eA] at this
    simp only [TActor.encO, hL] at this
    exact fin_all this
end A
end Go.Proofs.Ytgiiipbpadgcgaa

/-
  AreActors of the reference and of the program are the same plain function. No condition.
-/


namespace Go.Proofs.Ytgiiipbpadgcgaa
namespace A
set_option linter.unusedVariables false
set_option linter.unusedSimpArgs false
set_option maxRecDepth 100000

def actorOk (a : TActor) : Bool :=
  inR a.Line 0 7 && inR a.Version 1 1000000000000 && decide (a.Words.list.length ≤ 4100) && decide (a.State = 0) && decide (a.At = 0) && decide (a.Seq = 0) && (a.Writer || decide (a.Words.list.length = 0))

def areActors (l : List TActor) : Bool := l.all actorOk && decide (l.length ≤ 8)

theorem spec_areActors {s : SL TActor} (hn : s.list.length ≤ mx) : Fnc Try.prog 68 [s.av 7 TActor.enc] (.bool (areActors s.list)) := by
  refine fn_of c68 (by simp [F68]) fun c => ?_
  unfold F68
  simp
  refine loop_drop s.list.length (fun i e H c' => e 0 = s.av 7 TActor.enc ∧ e 3 = .int .i64 i ∧ (s.list.take i).all actorOk = true ∧ H = []) ⟨rfl, rfl, by simp, rfl⟩ ?_
  intro i e H c hi ⟨e0, e3, hall, hH⟩ N hN
  subst hH
  simp [e0, e3]
  refine ⟨fun h => ⟨s.list[i], List.getElem?_eq_getElem h, ?_⟩, fun h => ?_⟩
  · generalize hx : s.list[i] = x
    have bad : actorOk x = false → areActors s.list = false := fun hb => by
      unfold areActors
      have : s.list.all actorOk = false := by
        rw [List.all_eq_false]; exact ⟨x, hx ▸ List.getElem_mem h, by simp [hb]⟩
      simp [this]
    simp [e0, e3]
    refine call_fn0 (l1In_fn _ _ _) .bool fun _ _ => ?_
    cases h1 : inR x.Line 0 7
    · simp [e0, e3]; exact fin_plain ⟨by rw [bad (by simp [actorOk, h1])], rfl⟩
    simp [e0, e3]
    refine call_fn0 (l1In_fn _ _ _) .bool fun _ _ => ?_
    cases h2 : inR x.Version 1 1000000000000
    · simp [e0, e3]; exact fin_plain ⟨by rw [bad (by simp [actorOk, h2])], rfl⟩
    simp [e0, e3]
    by_cases h3 : (4100 : Int) < x.Words.list.length
    · simp [e0, e3, h3]; exact fin_plain ⟨by rw [bad (by simp [actorOk]; intros; omega)], rfl⟩
    simp [e0, e3, h3]
    by_cases h4 : x.State = 0
    rotate_left
    · simp [e0, e3, h4]; exact fin_plain ⟨by rw [bad (by simp [actorOk, h4])], rfl⟩
    simp [e0, e3, h4]
    by_cases h5 : x.At = 0
    rotate_left
    · simp [e0, e3, h5]; exact fin_plain ⟨by rw [bad (by simp [actorOk, h5])], rfl⟩
    simp [e0, e3, h5]
    by_cases h6 : x.Seq = 0
    rotate_left
    · simp [e0, e3, h6]; exact fin_plain ⟨by rw [bad (by simp [actorOk, h6])], rfl⟩
    simp [e0, e3, h6]
    have good : (x.Writer || decide (x.Words.list.length = 0)) = true → actorOk x = true := fun hg => by
      have : x.Words.list.length ≤ 4100 := by omega
      simp [actorOk, h1, h2, h4, h5, h6, this]; simpa using hg
    cases h7 : x.Writer
    · simp [e0, e3, h6, h7]
      refine ⟨fun h8 => fin_plain ⟨by rw [bad (by simp [actorOk, h7]; intros; intro h; simp [h] at h8)], rfl⟩, fun h8 => ?_⟩
      have hg := good (by simp [h7, h8])
      exact hN _ _ _ _ h (List.nil_sublist _) ⟨by simp [upd, e0], by simp [upd]; exact step64 hn h, all_step hall h (hx ▸ hg), rfl⟩
    · simp [e0, e3, h6, h7]
      have hg := good (by simp [h7])
      exact hN _ _ _ _ h (List.nil_sublist _) ⟨by simp [upd, e0], by simp [upd]; exact step64 hn h, all_step hall h (hx ▸ hg), rfl⟩
  · have : i = s.list.length := by omega
    subst this
    rw [List.take_length] at hall
    refine fin_plain ⟨?_, rfl⟩
    simp [areActors, hall]
    omega

theorem impl_areActors {s : SL TActor} (hn : s.list.length ≤ mx) : Fnc Try.prog 119 [s.av 7 TActor.enc] (.bool (areActors s.list)) := by
  refine fn_of c119 (by simp [F119]) fun c => ?_
  unfold F119
  simp
  refine loop_drop s.list.length (fun i e H c' => e 0 = s.av 7 TActor.enc ∧ e 5 = s.av 7 TActor.enc ∧ e 6 = .int .i64 s.list.length ∧ e 7 = .int .i64 i ∧ (s.list.take i).all actorOk = true ∧ H = []) ⟨rfl, rfl, rfl, rfl, by simp, rfl⟩ ?_
  intro i e H c hi ⟨e0, e5, e6, e7, hall, hH⟩ N hN
  subst hH
  simp [e0, e5, e6, e7]
  refine ⟨fun h => ⟨s.list[i], List.getElem?_eq_getElem h, ?_⟩, fun h => ?_⟩
  · generalize hx : s.list[i] = x
    have bad : actorOk x = false → areActors s.list = false := fun hb => by
      unfold areActors
      have : s.list.all actorOk = false := by
        rw [List.all_eq_false]; exact ⟨x, hx ▸ List.getElem_mem h, by simp [hb]⟩
      simp [this]
    simp [e0, e5, e6, e7]
    refine call_fn0 (inRange_fn _ _ _) .bool fun _ _ => ?_
    cases h1 : inR x.Line 0 7
    · simp [e0, e5, e6, e7]; exact fin_plain ⟨by rw [bad (by simp [actorOk, h1])], rfl⟩
    simp [e0, e5, e6, e7]
    refine call_fn0 (inRange_fn _ _ _) .bool fun _ _ => ?_
    cases h2 : inR x.Version 1 1000000000000
    · simp [e0, e5, e6, e7]; exact fin_plain ⟨by rw [bad (by simp [actorOk, h2])], rfl⟩
    simp [e0, e5, e6, e7]
    by_cases h3 : (4100 : Int) < x.Words.list.length
    · simp [e0, e5, e6, e7, h3]; exact fin_plain ⟨by rw [bad (by simp [actorOk]; intros; omega)], rfl⟩
    have key : ∀ (hw : x.Writer = true ∨ x.Words.list = []), x.State = 0 → x.At = 0 → x.Seq = 0 → actorOk x = true := fun hw h4 h5 h6 => by
      have : x.Words.list.length ≤ 4100 := by omega
      simp [actorOk, h1, h2, h4, h5, h6, this]; exact hw
    by_cases hw : x.Writer = true ∨ x.Words.list = []
    rotate_left
    · have hw1 : x.Writer = false := by simpa using fun h => hw (.inl h)
      have hw2 : x.Words.list ≠ [] := fun h => hw (.inr h)
      have hp : 0 < x.Words.list.length := List.length_pos_iff.2 hw2
      simp [e0, e5, e6, e7, h3, hw1, hp]
      exact fin_plain ⟨by rw [bad (by simp [actorOk, hw1, hw2])], rfl⟩
    have hok := key hw
    have hws : ∀ b, x.Writer = b → (b = false → x.Words.list = []) := fun b hb hf => hw.resolve_left (by rw [hb, hf]; simp)
    cases h7 : x.Writer
    · have h8 := hws _ h7 rfl
      simp [e0, e5, e6, e7, h3, h7, h8]
      by_cases h4 : x.State = 0
      rotate_left
      · simp [e0, e5, e6, e7, h3, h7, h8, h4]; exact fin_plain ⟨by rw [bad (by simp [actorOk, h4])], rfl⟩
      by_cases h5 : x.At = 0
      rotate_left
      · simp [e0, e5, e6, e7, h3, h7, h8, h4, h5]; exact fin_plain ⟨by rw [bad (by simp [actorOk, h5])], rfl⟩
      by_cases h6 : x.Seq = 0
      rotate_left
      · simp [e0, e5, e6, e7, h3, h7, h8, h4, h5, h6]; exact fin_plain ⟨by rw [bad (by simp [actorOk, h6])], rfl⟩
      simp [e0, e5, e6, e7, h3, h7, h8, h4, h5, h6]
      exact hN _ _ _ _ h (List.nil_sublist _) ⟨by simp [upd, e0], by simp [upd, e5], by simp [upd, e6], by simp [upd]; exact step64 hn h, all_step hall h (hx ▸ hok h4 h5 h6), rfl⟩
    · simp [e0, e5, e6, e7, h3, h7]
      by_cases h4 : x.State = 0
      rotate_left
      · simp [e0, e5, e6, e7, h3, h7, h4]; exact fin_plain ⟨by rw [bad (by simp [actorOk, h4])], rfl⟩
      by_cases h5 : x.At = 0
      rotate_left
      · simp [e0, e5, e6, e7, h3, h7, h4, h5]; exact fin_plain ⟨by rw [bad (by simp [actorOk, h5])], rfl⟩
      by_cases h6 : x.Seq = 0
      rotate_left
      · simp [e0, e5, e6, e7, h3, h7, h4, h5, h6]; exact fin_plain ⟨by rw [bad (by simp [actorOk, h6])], rfl⟩
      simp [e0, e5, e6, e7, h3, h7, h4, h5, h6]
      exact hN _ _ _ _ h (List.nil_sublist _) ⟨by simp [upd, e0], by simp [upd, e5], by simp [upd, e6], by simp [upd]; exact step64 hn h, all_step hall h (hx ▸ hok h4 h5 h6), rfl⟩
  · have : i = s.list.length := by omega
    subst this
    rw [List.take_length] at hall
    refine fin_plain ⟨?_, rfl⟩
    simp [areActors, hall]
    omega

theorem areActors_con {s t : SL TActor} (h : s.list.map TActor.con = t.list.map TActor.con) : areActors s.list = areActors t.list := by
  have e : ∀ l : List TActor, areActors l = areActors (l.map TActor.con) := fun l => by
    unfold areActors
    rw [List.all_map, List.length_map]
    rfl
  rw [e, e t.list, h]

end A
end Go.Proofs.Ytgiiipbpadgcgaa

/-
  Actors copied, by the reference. No condition.
-/


namespace Go.Proofs.Ytgiiipbpadgcgaa
namespace A
set_option linter.unusedVariables false
set_option linter.unusedSimpArgs false
set_option maxRecDepth 100000

def rowsY (ks : List (Nat × TActor)) : List (List AV) := ks.map fun p => encY p.1 p.2
theorem renY (t : Nat) (ks : List (Nat × TActor)) : RenO [] ⟨false, t, 7, rowsY ks⟩ ⟨false, t, 7, (ks.map (·.2)).map TActor.encO⟩ where
  mp := rfl
  tag := rfl
  w := rfl
  len := by simp [rowsY]
  maps h := by cases h
  row r x x' h1 h2 := by
    simp only [rowsY, List.getElem?_map, Option.map_eq_some_iff] at h1 h2
    obtain ⟨p, hp, rfl⟩ := h1
    obtain ⟨y, ⟨q, hq, rfl⟩, rfl⟩ := h2
    rw [hp] at hq; cases hq
    refine ⟨rfl, fun j a a' h3 h4 => ?_⟩
    match j, h3, h4 with
    | 0, h3, h4 => simp [encY] at h3; simp [TActor.encO] at h4; exact .inl (by rw [← h3, ← h4])
    | 1, h3, h4 => simp [encY] at h3; simp [TActor.encO] at h4; exact .inl (by rw [← h3, ← h4])
    | 2, h3, h4 => simp [encY] at h3; simp [TActor.encO] at h4; exact .inl (by rw [← h3, ← h4])
    | 3, h3, h4 =>
      simp [encY] at h3; simp [TActor.encO] at h4
      subst h3; subst h4
      exact .inr ⟨cell_ref _ _, view_at' _ _ _ _⟩
    | 4, h3, h4 => simp [encY] at h3; simp [TActor.encO] at h4; exact .inl (by rw [← h3, ← h4])
    | 5, h3, h4 => simp [encY] at h3; simp [TActor.encO] at h4; exact .inl (by rw [← h3, ← h4])
    | 6, h3, h4 => simp [encY] at h3; simp [TActor.encO] at h4; exact .inl (by rw [← h3, ← h4])
    | j + 7, h3, h4 => simp [encY] at h3
theorem wood_innA (t : Nat) (l : List TActor) : (SL.mk t l).wood 7 TActor.encO TActor.inn = ⟨false, t, 7, l.map TActor.encO⟩ :: innA l := rfl
theorem innA_one (x : TActor) : innA [x] = x.inn := by simp [innA]
theorem con_pa {a b : TActor} (h : a.con = b.con) : a.pa = b.pa := by
  have h0 : a.Writer = b.Writer := (congrArg TActor.Writer h : a.con.Writer = b.con.Writer)
  have h1 : a.Line = b.Line := (congrArg TActor.Line h : a.con.Line = b.con.Line)
  have h2 : a.Version = b.Version := (congrArg TActor.Version h : a.con.Version = b.con.Version)
  have h3 : a.State = b.State := (congrArg TActor.State h : a.con.State = b.con.State)
  have h4 : a.At = b.At := (congrArg TActor.At h : a.con.At = b.con.At)
  have h5 : a.Seq = b.Seq := (congrArg TActor.Seq h : a.con.Seq = b.con.Seq)
  have h6 : a.Words.list = b.Words.list := (congrArg (fun x : TActor => x.Words.list) h : a.con.Words.list = b.con.Words.list)
  simp [TActor.pa, h0, h1, h2, h3, h4, h5, h6]

theorem spec_actorsO {s : SL TActor} (hn : s.list.length ≤ 1048576) (hz : ∀ x, x ∈ s.list → x.Words.list.length ≤ 1048576) (c : Nat) :
    Con Try.prog 151 [s.av 7 TActor.enc] [] c fun r O _ => ∃ b : SL TActor, r = b.ref 7 ∧ O = b.wood 7 TActor.encO TActor.inn ∧ b.list.map TActor.pa = s.list.map TActor.pa ∧ ∃ t, b = .mk t b.list := by
  refine con_of c151 (by simp [F151]) ?_
  unfold F151
  simp
  refine loop_drop s.list.length (fun i e H c' => e 0 = s.av 7 TActor.enc ∧ e 4 = .int .i64 i ∧ ∃ (t : Nat) (ks : List (Nat × TActor)), e 3 = .ref 0 t 7 i ∧ ks.length = i ∧ (ks.map (·.2)).map TActor.pa = (s.list.take i).map TActor.pa ∧ H = ⟨false, t, 7, rowsY ks⟩ :: innA (ks.map (·.2))) ⟨rfl, rfl, _, [], rfl, rfl, rfl, rfl⟩ ?_
  intro i e H c' hi ⟨e0, e4, t, ks, e3, hy, hcon, hH⟩ N hN
  subst hH
  have hrl : (rowsY ks).length = i := by simp [rowsY, hy]
  generalize hys : ks.map (·.2) = ys at hcon
  simp [e0, e3, e4]
  refine ⟨fun h => ⟨s.list[i], List.getElem?_eq_getElem h, ?_⟩, fun h => ?_⟩
  · have hw := hz _ (List.getElem_mem h)
    have hget : s.list[i]? = some s.list[i] := List.getElem?_eq_getElem h
    have htk : (s.list.take (i + 1)).map TActor.pa = (s.list.take i).map TActor.pa ++ [s.list[i].pa] := by rw [List.take_succ_eq_append_getElem h, List.map_append]; rfl
    generalize s.list[i] = x at hget hw htk
    simp [e0, e3, e4, h]
    refine ⟨_, hget, ?_⟩
    have m1 : x.Words.list.length * 8 ≤ 140737488355328 := by omega
    have m2 : x.Words.list.length ≤ mx := by unfold mx; omega
    have m3 : (i + 1) * 72 ≤ 140737488355328 := by omega
    have m4 : i + 1 ≤ mx := by unfold mx; omega
    simp [e0, e3, e4, h, m1, m2, m3, m4, hrl, putA, TActor.enc]
    refine hN _ _ (⟨false, c' + 1 + 1 + 1 + 1, 7, rowsY (ks ++ [((innA ys).length + 1 + 1, TActor.mk x.Writer x.Line x.Version (.mk (c' + 1 + 1) x.Words.list) x.State x.At x.Seq)])⟩ :: innA ((ks ++ [((innA ys).length + 1 + 1, TActor.mk x.Writer x.Line x.Version (.mk (c' + 1 + 1) x.Words.list) x.State x.At x.Seq)]).map (·.2))) _ h ?_
      ⟨by simp [upd, e0], by simp [upd]; exact step64 (by unfold mx; omega) h, c' + 1 + 1 + 1 + 1, _, by simp [upd], by simp [hy], ?_, rfl⟩
    · rw [List.map_append, innA_app, hys]
      have e1 : rowsY (ks ++ [((innA ys).length + 1 + 1, TActor.mk x.Writer x.Line x.Version (.mk (c' + 1 + 1) x.Words.list) x.State x.At x.Seq)]) = rowsY ks ++ [[.bool x.Writer, .int .i64 x.Line, .int .i64 x.Version, .ref ((innA ys).length + 1 + 1) (c' + 1 + 1) 1 x.Words.list.length, .int .i64 x.State, .int .i64 x.At, .int .i64 x.Seq]] := by
        simp [rowsY, encY, SL.at_]
      rw [e1]
      refine List.Sublist.cons_cons _ (List.Sublist.append (List.Sublist.refl _) ?_)
      simp only [List.map_cons, List.map_nil, innA_one, TActor.inn, flat_wood]
      exact ((List.nil_sublist _).cons_cons _).cons _
    · rw [List.map_append, List.map_append, hys, hcon, htk]
      simp [TActor.pa]
  · have h1 : i = s.list.length := by omega
    subst h1
    refine fin_ren (List.Sublist.refl _) (.cons (renY t ks) (.refl _ _)) (.refl _) ⟨.mk t ys, ?_, ?_, ?_, t, rfl⟩
    · subst hys; simp [SL.ref, hy]
    · rw [wood_innA, hys]
    · simpa using hcon
end A
end Go.Proofs.Ytgiiipbpadgcgaa

/-
  RunActors of the reference. No condition.
-/

namespace Go.Proofs.Ytgiiipbpadgcgaa
namespace A
set_option linter.unusedVariables false
set_option linter.unusedSimpArgs false
set_option maxRecDepth 100000

theorem pl_of_con {l m : List TLine} (h : l.map TLine.con = m.map TLine.con) : l.map TLine.pl = m.map TLine.pl := by
  have e : ∀ l : List TLine, l.map TLine.pl = (l.map TLine.con).map TLine.pl := fun l => by
    rw [List.map_map]; rfl
  rw [e l, e m, h]
theorem pl_rec (o : Int) (l : List TLine) : (l.map (recL o)).map TLine.pl = (l.map TLine.pl).map (recP o) := by
  rw [List.map_map, List.map_map]
  refine List.map_congr_left fun x _ => ?_
  simp only [Function.comp_apply, recL, recP, TLine.pl]
  by_cases h : x.Owner = o <;> simp [h]
/-- All of it. -/
def runAll (l : List TLine) (cs : List TActor) (sch : List Int) : List PL × List PA :=
  if areLines l && areActors cs && decide (0 < cs.length) then runA (l.map TLine.pl, cs.map TActor.pa) sch else (l.map TLine.pl, cs.map TActor.pa)
theorem gd_start {l : List TLine} {cs : List TActor} (h1 : areLines l = true) (h2 : areActors cs = true) : Gd 0 (l.map TLine.pl, cs.map TActor.pa) := by
  unfold areLines at h1
  unfold areActors at h2
  simp only [Bool.and_eq_true, List.all_eq_true] at h1 h2
  refine ⟨fun x hx => ?_, fun a ha => ?_⟩
  · obtain ⟨y, hy, rfl⟩ := List.mem_map.1 hx
    have := h1.1 y hy
    unfold lineOk at this
    simp only [Bool.and_eq_true, decide_eq_true_eq] at this
    have hs := inR_true this.1.1.1.1
    exact ⟨hs.1, by simp [TLine.pl]; omega, by have := this.1.2; simp [TLine.pl]; omega⟩
  · obtain ⟨y, hy, rfl⟩ := List.mem_map.1 ha
    have := h2.1 y hy
    unfold actorOk at this
    simp only [Bool.and_eq_true, decide_eq_true_eq] at this
    have hs := inR_true this.1.1.1.1.1.1
    exact ⟨hs.1, hs.2, by simp [TActor.pa, this.1.1.2], by simp [TActor.pa, this.1.1.2], by simp [TActor.pa, this.1.1.2], by have := this.1.1.1.1.2; simp [TActor.pa]; omega⟩

def RunQ (p : List PL × List PA) (r : AV) (O : List AObj) : Prop := ∃ (b : SL TLine) (d : SL TActor), r = .tup [b.ref 4, d.ref 7] ∧ O = b.wood 4 TLine.encO TLine.inn ++ d.wood 7 TActor.encO TActor.inn ∧ (b.list.map TLine.pl, d.list.map TActor.pa) = p
/-- Under way: the lines first, then the actors, then what hangs on them. -/
def RunS (tl ta nl na : Nat) (p : List PL × List PA) (H : List AObj) : Prop :=
  ∃ (l : List TLine) (cs : List TActor) (T G : List AObj), l.length = nl ∧ cs.length = na ∧ H = ⟨false, tl, 4, l.map TLine.encO⟩ :: ⟨false, ta, 7, cs.map TActor.encO⟩ :: T ∧ T.Perm (inns l ++ (innA cs ++ G)) ∧ (∀ o, o ∈ G → ∀ T, AvRows T o) ∧ (l.map TLine.pl, cs.map TActor.pa) = p
theorem runS_run {tl ta nl na : Nat} {p : List PL × List PA} {r : AV} {O : List AObj} (hr : r = .tup [.ref 0 tl 4 nl, .ref 1 ta 7 na]) (h : RunS tl ta nl na p O) : ∃ Hs H2, Hs.Sublist O ∧ H2.Perm Hs ∧ ∃ r', View [] r r' ∧ RunQ p r' H2 := by
  obtain ⟨l, cs, T, G, hl, hc, hO, hp, hG, he⟩ := h
  have hsub : (inns l ++ innA cs).Sublist (inns l ++ (innA cs ++ G)) := by
    rw [← List.append_assoc]; exact List.sublist_append_left _ _
  obtain ⟨Ts, hTp, hTs⟩ := List.exists_perm_sublist hsub hp.symm
  refine ⟨⟨false, tl, 4, l.map TLine.encO⟩ :: ⟨false, ta, 7, cs.map TActor.encO⟩ :: Ts, (SL.mk tl l).wood 4 TLine.encO TLine.inn ++ (SL.mk ta cs).wood 7 TActor.encO TActor.inn, ?_, ?_, .tup [(SL.mk tl l).ref 4, (SL.mk ta cs).ref 7], ?_, .mk tl l, .mk ta cs, rfl, rfl, he⟩
  · subst hO; exact (hTs.cons_cons _).cons_cons _
  · rw [wood_inns, wood_innA]
    refine List.Perm.cons _ ?_
    refine List.perm_middle.trans (List.Perm.cons _ hTp.symm)
  · subst hr; subst hl; subst hc
    exact view_tup (.cons (.name) (.cons .name .nil))

theorem acc_loop {f tl ta j c nl na n : Nat} {p : List PL × List PA} {H : List AObj} (hn : n ≤ 2097152) (hg : Gd n p) (hj : j < na) (hnl : nl ≤ 1048576) (hna : na ≤ 1048576) (hS : RunS tl ta nl na p H)
    (hf : ∀ (l : List TLine) (cs : List TActor) (G : List AObj), j < cs.length → Gd n (l.map TLine.pl, cs.map TActor.pa) → (∀ o, o ∈ G → ∀ T, AvRows T o) → l.length ≤ 1048576 → cs.length ≤ 1048576 →
      Con Try.prog f [.ref 0 tl 4 l.length, .ref 1 ta 7 cs.length, .int .i64 j] (⟨false, tl, 4, l.map TLine.encO⟩ :: ⟨false, ta, 7, cs.map TActor.encO⟩ :: (inns l ++ (innA cs ++ G))) c fun r O _ => AccQ tl ta j l cs G r O) :
    Con Try.prog f [.ref 0 tl 4 nl, .ref 1 ta 7 na, .int .i64 j] H c fun r O _ => r = .tup [] ∧ RunS tl ta nl na (accAt j p) O ∧ ∀ o, o ∈ O → AvRows [] o := by
  obtain ⟨l, cs, T, G, hl, hc, hO, hp, hG, he⟩ := hS
  subst hl; subst hc; subst hO; subst he
  refine (con_in (hf l cs G hj hg hG hnl hna) (Views.refl _ _) (.cons _ (.cons _ hp.symm)) (.refl _ _)).mono fun r O c' _ hq => ?_
  have ht := accQ_tidy hq hG
  obtain ⟨h1, l', cs', T', J, h2, h3, h4, h5, h6⟩ := hq
  have hlen : (accAt j (l.map TLine.pl, cs.map TActor.pa)).1.length = l.length ∧ (accAt j (l.map TLine.pl, cs.map TActor.pa)).2.length = cs.length := by
    unfold accAt; split
    · simp
    · split <;> simp
  rw [← h2] at hlen
  simp at hlen
  exact ⟨h1, ⟨l', cs', T', J ++ G, hlen.1, hlen.2, h3, h4, tidyA h6 hG, h2⟩, ht.2⟩
theorem rec_loop {f tl ta c nl na n : Nat} {o : Int} {p : List PL × List PA} {H : List AObj} (hn : n ≤ 2097152) (hg : ∀ x, x ∈ p.1 → GdL n x) (hnl : nl ≤ 1048576) (hS : RunS tl ta nl na p H)
    (hf : ∀ (l : List TLine), l.length ≤ 1048576 → (∀ x, x ∈ l → 0 ≤ x.Seq ∧ x.Seq ≤ 1000000000000000) →
      Con Try.prog f [.ref 0 tl 4 l.length, .int .i64 o] (⟨false, tl, 4, l.map TLine.encO⟩ :: inns l) c fun r O _ => r = .tup [] ∧ O = ⟨false, tl, 4, (l.map (recL o)).map TLine.encO⟩ :: inns (l.map (recL o))) :
    Con Try.prog f [.ref 0 tl 4 nl, .int .i64 o] H c fun r O _ => r = .tup [] ∧ RunS tl ta nl na (p.1.map (recP o), p.2) O ∧ ∀ o, o ∈ O → AvRows [] o := by
  obtain ⟨l, cs, T, G, hl, hc, hO, hp, hG, he⟩ := hS
  subst hl; subst hc; subst hO; subst he
  have hf := hf l hnl fun x hx => by
    have := hg x.pl (List.mem_map.2 ⟨x, hx, rfl⟩)
    have h0 : 0 ≤ x.Seq := this.s0
    have h1 : x.Seq ≤ 1000000000000 + n := this.s1
    exact ⟨h0, by omega⟩
  refine con_perm (con_in (con_frame (R := ⟨false, ta, 7, cs.map TActor.encO⟩ :: (innA cs ++ G)) hf) (Views.refl _ _) ?_ (.refl _ _)) fun r O c' hq => ?_
  · rw [List.cons_append]
    exact List.Perm.cons _ (List.perm_middle.trans (List.Perm.cons _ hp.symm))
  · obtain ⟨O1, ⟨h1, h2⟩, h3⟩ := hq
    subst h2; subst h3
    refine ⟨_, ⟨false, tl, 4, (l.map (recL o)).map TLine.encO⟩ :: ⟨false, ta, 7, cs.map TActor.encO⟩ :: (inns (l.map (recL o)) ++ (innA cs ++ G)), List.Sublist.refl _, ?_, h1, ⟨l.map (recL o), cs, _, G, by simp, rfl, rfl, .refl _, hG, by rw [pl_rec]⟩, fun o ho => ?_⟩
    · exact (List.Perm.cons _ List.perm_middle).symm
    · exact tidyC (tidy_L tl _) (tidyC (tidy_A ta cs) (tidyA (tidy_inns _) (tidyA (tidy_innA _) hG))) o ho []

theorem con_run {f : Nat} {args : List AV} {p : List PL × List PA} {c : Nat} (key : Con Try.prog f args [] c fun r O _ => ∃ tl ta nl na, r = .tup [.ref 0 tl 4 nl, .ref 1 ta 7 na] ∧ RunS tl ta nl na p O) : Con Try.prog f args [] c fun r O _ => RunQ p r O :=
  Con.fin (con_perm (Q' := fun r O _ => ∃ r', View [] r r' ∧ RunQ p r' O) key fun r O c' ⟨tl, ta, nl, na, h1, h2⟩ => runS_run h1 h2) fun r O c' _ ⟨r', hv, hq⟩ _ _ => fin_sub (List.Sublist.refl _) hv hq
/-- A call that hands back an object of its own: it stands second. -/
theorem call_new1 {P : Program} {f c : Nat} {l l' : List AV} {a : AObj} {M : List AObj} {Q K : AV → List AObj → Nat → Prop} (hf : Con P f l' [] c Q) (hv : Views [] l l')
    (k : ∀ r O c', c ≤ c' → Q r O c' → ∃ r' b O', O = b :: O' ∧ View [] r r' ∧ Av [] r' ∧ (∀ o, o ∈ O → AvRows [] o) ∧ K r' (a :: b :: (M ++ O')) c') : CallW P f l (a :: M) c K := by
  intro hn hlt
  obtain ⟨h1, h2⟩ := hv.spec
  refine ⟨[], [], l', Q, List.nil_sublist _, by simp, by simp [tags], h1, h2, hf, fun r O c' hc hq ho hd => ?_⟩
  have hfresh : ∀ t, t ∈ tags O → c ≤ t := fun t ht => by
    rcases Nat.lt_or_ge t c with h | h
    · have := ho t h ht; simp [tags] at this
    · exact h
  obtain ⟨r', b, O', e, k1, k2, k3, k4⟩ := k r O c' hc hq
  subst e
  have hp : (a :: b :: (M ++ O')).Perm ((a :: M) ++ (b :: O')) := List.Perm.cons _ List.perm_middle.symm
  refine ⟨_, r', fun o h => ?_, ?_, k1, k2, fun o _ h => k3 o h, k4⟩
  · rcases List.mem_append.1 (hp.mem_iff.1 h) with h | h
    · exact .inr ⟨h, by simp [tags]⟩
    · exact .inl h
  · refine (hp.map _).nodup_iff.2 ?_
    have : tags ((a :: M) ++ (b :: O')) = tags (a :: M) ++ tags (b :: O') := by simp [tags]
    show (tags ((a :: M) ++ (b :: O'))).Nodup
    rw [this]
    refine List.nodup_append.2 ⟨hn, hd, fun x hx y hy hxy => ?_⟩
    subst hxy
    exact absurd (hlt x hx) (Nat.not_lt.2 (hfresh x hy))

theorem kill_loop {f tl ta c nl na n j : Nat} {l : List TLine} {cs : List TActor} {T G : List AObj} {p : List PL × List PA} {a a' : TActor} (hn : n ≤ 2097152) (hg : Gd n p) (hnl : nl ≤ 1048576) (hl : l.length = nl) (hc : cs.length = na) (ha : cs[j]? = some a)
    (hp : T.Perm (inns l ++ (innA cs ++ G))) (hG : ∀ o, o ∈ G → ∀ T, AvRows T o) (he : (l.map TLine.pl, cs.map TActor.pa) = p) (h1 : a'.pa = deadP a.pa) (h2 : a'.inn = a.inn)
    (hf : ∀ (l : List TLine), l.length ≤ 1048576 → (∀ x, x ∈ l → 0 ≤ x.Seq ∧ x.Seq ≤ 1000000000000000) →
      Con Try.prog f [.ref 0 tl 4 l.length, .int .i64 ((j : Int) + 1)] (⟨false, tl, 4, l.map TLine.encO⟩ :: inns l) c fun r O _ => r = .tup [] ∧ O = ⟨false, tl, 4, (l.map (recL ((j : Int) + 1))).map TLine.encO⟩ :: inns (l.map (recL ((j : Int) + 1)))) :
    Con Try.prog f [.ref 0 tl 4 nl, .int .i64 ((j : Int) + 1)] (⟨false, tl, 4, l.map TLine.encO⟩ :: ⟨false, ta, 7, (cs.map TActor.encO).set j a'.encO⟩ :: T) c fun r O _ => r = .tup [] ∧ RunS tl ta nl na (killAt j p) O ∧ ∀ o, o ∈ O → AvRows [] o := by
  have hpj : p.2[j]? = some a.pa := by rw [← he]; simp [ha]
  have hkill : killAt j p = (p.1.map (recP (j + 1)), p.2.set j (deadP a.pa)) := by unfold killAt; rw [hpj]
  have hj : j < cs.length := (List.getElem?_eq_some_iff.1 ha).1
  rw [hkill]
  refine rec_loop (n := n) (p := (p.1, p.2.set j (deadP a.pa))) hn hg.l hnl ⟨l, cs.set j a', T, G, hl, by simpa using hc, by rw [List.map_set], ?_, hG, ?_⟩ hf
  · refine hp.trans (List.Perm.append_left _ (List.Perm.append_right _ ?_))
    refine (perm_actor ha).trans ?_
    rw [← h2]
    exact (perm_actor' hj a').symm
  · rw [← he, List.map_set, h1]

theorem spec_run {s : SL TLine} {d : SL TActor} {sch : SL Int} (hn : s.list.length ≤ 1048576) (hz : ∀ x, x ∈ s.list → x.Words.list.length ≤ 1048576) (hd : d.list.length ≤ 1048576) (hw : ∀ x, x ∈ d.list → x.Words.list.length ≤ 1048576) (hs : sch.list.length ≤ 1048576) (hi : ∀ k, k ∈ sch.list → -9223372036854775808 ≤ k ∧ k ≤ 9223372036854775807) (c : Nat) :
    Con Try.prog 121 [s.av 4 TLine.enc, d.av 7 TActor.enc, sch.av 1 encI] [] c fun r O _ => RunQ (runAll s.list d.list sch.list) r O := by
  refine con_run ?_
  refine con_of c121 (by simp [F121]) ?_
  unfold F121
  simp
  refine call_new (spec_copyM hn hz _) (Views.refl _ _) fun r O c1 hc ⟨b, hr, hO, hb, tl, hbt⟩ _ _ => ?_
  subst hr
  generalize b.list = l at hbt hb
  subst hbt
  rw [wood_inns] at hO
  subst hO
  refine ⟨_, .refl _, free_ref _ _ _, fun o ho => tidyC (tidy_L tl l) (tidy_inns l) o ho _, ?_⟩
  simp
  refine call_new1 (spec_actorsO hd hw _) (Views.refl _ _) fun r O c2 hc2 ⟨b2, hr, hO, hb2, ta, hbt⟩ => ?_
  subst hr
  generalize b2.list = cs at hbt hb2
  subst hbt
  rw [wood_innA] at hO
  subst hO
  refine ⟨.ref 1 ta 7 cs.length, _, _, rfl, .name, .ref, fun o ho => tidyC (tidy_A ta cs) (tidy_innA cs) o ho _, ?_⟩
  have hbl : l.length = s.list.length := by simpa using congrArg List.length hb
  have hcl : cs.length = d.list.length := by simpa using congrArg List.length hb2
  have hpl := pl_of_con hb
  have hp0 : (l.map TLine.pl, cs.map TActor.pa) = (s.list.map TLine.pl, d.list.map TActor.pa) := by rw [hpl, hb2]
  have start : RunS tl ta s.list.length d.list.length (s.list.map TLine.pl, d.list.map TActor.pa) (⟨false, tl, 4, l.map TLine.encO⟩ :: ⟨false, ta, 7, cs.map TActor.encO⟩ :: (inns l ++ innA cs)) :=
    ⟨l, cs, _, [], hbl, hcl, rfl, by simp, tidy0, hp0⟩
  generalize (⟨false, tl, 4, l.map TLine.encO⟩ :: ⟨false, ta, 7, cs.map TActor.encO⟩ :: (inns l ++ innA cs) : List AObj) = H0 at start
  rw [ref_mk, hbl, hcl]
  simp
  refine call_fn (spec_areLines (by unfold mx; omega)) (Views.refl _ _) .bool fun _ _ => ?_
  cases h1 : areLines s.list
  · simp
    exact fin_all ⟨tl, ta, _, _, rfl, by rw [runAll, h1]; exact start⟩
  simp
  refine call_fn (spec_areActors (by unfold mx; omega)) (Views.refl _ _) .bool fun c3 _ => ?_
  cases h2 : areActors d.list
  · simp
    exact fin_all ⟨tl, ta, _, _, rfl, by rw [runAll, h1, h2]; exact start⟩
  have hg0 := gd_start h1 h2
  generalize hp : (s.list.map TLine.pl, d.list.map TActor.pa) = p0 at start hg0
  by_cases hna : 0 < d.list.length
  rotate_left
  · simp
    have hall : runAll s.list d.list sch.list = p0 := by rw [runAll, ← hp]; simp [hna]
    refine loop_drop 0 (fun i e H c' => e 1 = d.av 7 TActor.enc ∧ e 2 = sch.av 1 encI ∧ e 8 = .ref 0 tl 4 s.list.length ∧ e 9 = .ref 1 ta 7 d.list.length ∧ e 10 = .int .i64 0 ∧ H = H0) ⟨rfl, rfl, rfl, rfl, rfl, rfl⟩ ?_
    intro i e H c' hi' ⟨e1, e2, e8, e9, e10, hH⟩ N hN
    subst hH
    by_cases hs0 : 0 < sch.list.length
    · simp [e1, e2, e8, e9, e10, hs0, hna]
      exact fin_all ⟨tl, ta, _, _, rfl, by rw [hall]; exact start⟩
    · simp [e1, e2, e8, e9, e10, hs0, hna]
      exact fin_all ⟨tl, ta, _, _, rfl, by rw [hall]; exact start⟩
  have hall : runAll s.list d.list sch.list = runA p0 sch.list := by rw [runAll, h1, h2, ← hp]; simp [hna]
  have hlen0 : p0.2.length = d.list.length := by rw [← hp]; simp
  simp
  refine loop_drop sch.list.length (fun i e H c' => e 1 = d.av 7 TActor.enc ∧ e 2 = sch.av 1 encI ∧ e 8 = .ref 0 tl 4 s.list.length ∧ e 9 = .ref 1 ta 7 d.list.length ∧ e 10 = .int .i64 i ∧ RunS tl ta s.list.length d.list.length (runA p0 (sch.list.take i)) H) ⟨rfl, rfl, rfl, rfl, rfl, by simpa [runA] using start⟩ ?_
  intro i e H c' hi' ⟨e1, e2, e8, e9, e10, hH⟩ N hN
  by_cases h : i < sch.list.length
  rotate_left
  · have : i = sch.list.length := by omega
    subst this
    simp [e1, e2, e8, e9, e10]
    exact fin_all ⟨tl, ta, _, _, rfl, by rw [hall]; simpa using hH⟩
  have hk : sch.list[i]? = some sch.list[i] := List.getElem?_eq_getElem h
  have hki := hi _ (List.getElem_mem h)
  have hst := run_take p0 sch.list h
  have hg := Gd.run hg0 sch.list i hi'
  have hlen := (run_len p0 (sch.list.take i)).2
  rw [hlen0] at hlen
  generalize sch.list[i] = k at hk hki hst
  generalize runA p0 (sch.list.take i) = p at hH hst hg hlen
  simp [e1, e2, e8, e9, e10, h, hna]
  refine ⟨k, hk, ?_⟩
  have hwi : IntKind.i64.wrap ((i : Int) + 1) = ((i + 1 : Nat) : Int) := by rw [step64 (by unfold mx; omega) h]; rfl
  have hnz : ¬ d.list.length = 0 := by omega
  by_cases hk0 : 0 ≤ k
  · have hj0 : 0 ≤ k.tmod d.list.length := Int.tmod_nonneg _ hk0
    have hj1 : k.tmod d.list.length < d.list.length := Int.tmod_lt_of_pos _ (by omega)
    have hstep : stepA k p = accAt (k.tmod d.list.length).toNat p := by unfold stepA; rw [if_pos hk0, hlen]
    obtain ⟨j, hj⟩ := Int.eq_ofNat_of_zero_le hj0
    rw [hj] at hj1 hstep
    simp [e1, e2, e8, e9, e10, h, hk0, hnz, hj]
    refine call_con (acc_loop (n := i) (by omega) hg (by omega) hn hd hH fun l cs G q1 q2 q3 q4 q5 => spec_access (by omega) q1 q2 q3 q4 q5) fun r H' c'' _ ⟨q1, q2, q3⟩ _ _ => ?_
    subst q1
    refine ⟨.tup (by simp), q3, ?_⟩
    simp [e1, e2, e8, e9, e10, hwi]
    refine hN _ _ _ _ h (List.Sublist.refl _) ⟨by simp [upd, e1], by simp [upd, e2], by simp [upd, e8], by simp [upd, e9], by simp [upd], ?_⟩
    rw [hst, hstep]; exact q2
  · have w1 : IntKind.i64.wrap (k + 1) = k + 1 := wrap64 (by omega) (by omega)
    have w2 : IntKind.i64.wrap (-(k + 1)) = -(k + 1) := wrap64 (by omega) (by omega)
    have hj0 : 0 ≤ (-(k + 1)).tmod d.list.length := Int.tmod_nonneg _ (by omega)
    have hj1 : (-(k + 1)).tmod d.list.length < d.list.length := Int.tmod_lt_of_pos _ (by omega)
    have hstep : stepA k p = killAt ((-(k + 1)).tmod d.list.length).toNat p := by unfold stepA; rw [if_neg hk0, hlen]
    obtain ⟨j, hj⟩ := Int.eq_ofNat_of_zero_le hj0
    rw [hj] at hj1 hstep
    have hjl : j < d.list.length := by omega
    obtain ⟨l, cs, T, G, hl, hc, hO, hp, hG, he⟩ := hH
    subst hO
    have ha : cs[j]? = some cs[j] := List.getElem?_eq_getElem (by omega)
    generalize cs[j] = a at ha
    have eA : (cs.map TActor.encO).set j a.encO = cs.map TActor.encO := set_same (by simp [ha])
    rw [← eA]
    have hjc : j < cs.length := by omega
    have w3 : IntKind.i64.wrap ((j : Int) + 1) = j + 1 := wrap64 (by omega) (by omega)
    have key := fun (a' : TActor) cc h1 h2 => kill_loop (tl := tl) (ta := ta) (c := cc) (a' := a') (n := i) (by omega) hg hn hl hc ha hp hG he h1 h2 fun l q1 q2 => spec_recoverO1 (owner := (j : Int) + 1) q1 q2 tl cc
    rw [Int.toNat_natCast] at hstep
    rw [← hstep, ← hst] at key
    by_cases s0 : a.State = 0
    · simp [e1, e2, e8, e9, e10, h, hk0, hnz, w1, w2, w3, hj, hjl, hjc, TActor.encO, putA, s0]
      refine call_con (key ⟨a.Writer, a.Line, a.Version, a.Words, 4, a.At, a.Seq⟩ _ (by simp [TActor.pa, deadP, s0]) rfl) fun r H' c'' _ ⟨q1, q2, q3⟩ _ _ => ?_
      subst q1
      refine ⟨.tup (by simp), q3, ?_⟩
      simp [e1, e2, e8, e9, e10, hwi]
      exact hN _ _ _ _ h (List.Sublist.refl _) ⟨by simp [upd, e1], by simp [upd, e2], by simp [upd, e8], by simp [upd, e9], by simp [upd], q2⟩
    by_cases s1 : a.State = 1
    · simp [e1, e2, e8, e9, e10, h, hk0, hnz, w1, w2, w3, hj, hjl, hjc, TActor.encO, putA, s0, s1]
      refine call_con (key ⟨a.Writer, a.Line, a.Version, a.Words, 4, a.At, a.Seq⟩ _ (by simp [TActor.pa, deadP, s1]) rfl) fun r H' c'' _ ⟨q1, q2, q3⟩ _ _ => ?_
      subst q1
      refine ⟨.tup (by simp), q3, ?_⟩
      simp [e1, e2, e8, e9, e10, hwi]
      exact hN _ _ _ _ h (List.Sublist.refl _) ⟨by simp [upd, e1], by simp [upd, e2], by simp [upd, e8], by simp [upd, e9], by simp [upd], q2⟩
    · simp [e1, e2, e8, e9, e10, h, hk0, hnz, w1, w2, w3, hj, hjl, hjc, TActor.encO, putA, s0, s1]
      refine call_con (key a _ (by simp [TActor.pa, deadP, s0, s1]) rfl) fun r H' c'' _ ⟨q1, q2, q3⟩ _ _ => ?_
      subst q1
      refine ⟨.tup (by simp), q3, ?_⟩
      simp [e1, e2, e8, e9, e10, hwi]
      exact hN _ _ _ _ h (List.Sublist.refl _) ⟨by simp [upd, e1], by simp [upd, e2], by simp [upd, e8], by simp [upd, e9], by simp [upd], q2⟩
end A
end Go.Proofs.Ytgiiipbpadgcgaa

/-
  RunActors of the program. No condition.
-/

namespace Go.Proofs.Ytgiiipbpadgcgaa
namespace A
set_option linter.unusedVariables false
set_option linter.unusedSimpArgs false
set_option maxRecDepth 100000

def cpA (ys l : List TActor) (i : Nat) : List (List AV) := ys.map TActor.encO ++ (l.drop i).map TActor.enc
theorem cpA_len {ys l : List TActor} {i : Nat} (h : ys.length = i) (hi : i ≤ l.length) : (cpA ys l i).length = l.length := by simp [cpA, h]; omega
theorem cpA_get {ys l : List TActor} {i : Nat} (h : ys.length = i) (hi : i < l.length) : (cpA ys l i)[i]? = some l[i].enc := by
  unfold cpA
  rw [List.getElem?_append_right (by simp; omega), List.length_map, h, Nat.sub_self, List.drop_eq_getElem_cons hi]; rfl
theorem cpA_set {ys l : List TActor} {i : Nat} (h : ys.length = i) (hi : i < l.length) (y : TActor) : (cpA ys l i).set i y.encO = cpA (ys ++ [y]) l (i + 1) := by
  unfold cpA
  rw [List.set_append_right _ _ (by simp; omega), List.length_map, h, Nat.sub_self, List.drop_eq_getElem_cons hi, List.map_cons, List.set_cons_zero]
  simp
theorem cpA_zero (l : List TActor) : cpA [] l 0 = l.map TActor.enc := by simp [cpA]
theorem cpA_all {ys l : List TActor} : cpA ys l l.length = ys.map TActor.encO := by simp [cpA]
theorem av_actor (x : TActor) : ∀ a, a ∈ x.enc → Av [] a := fun a ha => by
  simp [TActor.enc] at ha
  rcases ha with rfl | rfl | rfl | rfl | rfl | rfl | rfl
  · exact .bool
  · exact .int
  · exact .int
  · exact av_words _
  · exact .int
  · exact .int
  · exact .int

theorem tidyA1 {X : AObj} {T : List Nat} (h : AvRows T X) : ∀ o, o ∈ [X] → AvRows T o := fun o ho => by cases List.mem_singleton.1 ho; exact h
/-- No lines at all. -/
def RunS0 (ta na : Nat) (p : List PL × List PA) (H : List AObj) : Prop :=
  ∃ (cs : List TActor) (T G : List AObj), cs.length = na ∧ H = ⟨false, ta, 7, cs.map TActor.encO⟩ :: T ∧ T.Perm (innA cs ++ G) ∧ (∀ o, o ∈ G → ∀ T, AvRows T o) ∧ ([], cs.map TActor.pa) = p
theorem con_run3 {f : Nat} {args : List AV} {p : List PL × List PA} {c : Nat} (key : Con Try.prog f args [] c fun r O _ => (∃ tl ta nl na, r = .tup [.ref 0 tl 4 nl, .ref 1 ta 7 na] ∧ RunS tl ta nl na p O) ∨ (∃ ta na, r = .tup [.nsl, .ref 0 ta 7 na] ∧ RunS0 ta na p O) ∨ RunQ p r O) : Con Try.prog f args [] c fun r O _ => RunQ p r O :=
  Con.fin (con_perm (Q' := fun r O _ => ∃ r', View [] r r' ∧ RunQ p r' O) key fun r O c' h => by
    rcases h with ⟨tl, ta, nl, na, h1, h2⟩ | ⟨ta, na, h1, cs, T, G, h2, h3, h4, h5, h6⟩ | h
    · exact runS_run h1 h2
    · obtain ⟨Ts, hTp, hTs⟩ := List.exists_perm_sublist (List.sublist_append_left (innA cs) G) h4.symm
      refine ⟨⟨false, ta, 7, cs.map TActor.encO⟩ :: Ts, (SL.mk ta cs).wood 7 TActor.encO TActor.inn, ?_, ?_, _, .refl _, .nil, .mk ta cs, ?_, rfl, h6⟩
      · subst h3; exact hTs.cons_cons _
      · rw [wood_innA]; exact List.Perm.cons _ hTp.symm
      · subst h1; subst h2; rfl
    · exact ⟨O, O, List.Sublist.refl _, List.Perm.refl _, r, .refl _, h⟩) fun r O c' _ ⟨r', hv, hq⟩ _ _ => fin_sub (List.Sublist.refl _) hv hq
/-- A call that is handed nothing of the state. -/
theorem call_newS {P : Program} {f c : Nat} {l l' : List AV} {H : List AObj} {Q K : AV → List AObj → Nat → Prop} (hf : Con P f l' [] c Q) (hv : Views [] l l')
    (k : ∀ r O c', c ≤ c' → Q r O c' → ∃ r', View [] r r' ∧ Av [] r' ∧ (∀ o, o ∈ O → AvRows [] o) ∧ K r' (H ++ O) c') : CallW P f l H c K := by
  intro hn hlt
  obtain ⟨h1, h2⟩ := hv.spec
  refine ⟨[], [], l', Q, List.nil_sublist _, by simp, by simp [tags], h1, h2, hf, fun r O c' hc hq ho hd => ?_⟩
  have hfresh : ∀ t, t ∈ tags O → c ≤ t := fun t ht => by
    rcases Nat.lt_or_ge t c with h | h
    · have := ho t h ht; simp [tags] at this
    · exact h
  obtain ⟨r', k1, k2, k3, k4⟩ := k r O c' hc hq
  refine ⟨_, r', fun o h => ?_, ?_, k1, k2, fun o _ h => k3 o h, k4⟩
  · rcases List.mem_append.1 h with h | h
    · exact .inr ⟨h, by simp [tags]⟩
    · exact .inl h
  · have : tags (H ++ O) = tags H ++ tags O := by simp [tags]
    rw [this]
    refine List.nodup_append.2 ⟨hn, hd, fun x hx y hy hxy => ?_⟩
    subst hxy
    exact absurd (hlt x hx) (Nat.not_lt.2 (hfresh x hy))


theorem impl_access0 {ta j c n : Nat} {cs : List TActor} {T : List AObj} (hj : j < cs.length) (hg : ∀ a, a ∈ cs.map TActor.pa → GdA n a) :
    Con Try.prog 120 [.nsl, .ref 0 ta 7 cs.length, .int .i64 j] (⟨false, ta, 7, cs.map TActor.encO⟩ :: T) c fun r O _ => r = .tup [] ∧ O = ⟨false, ta, 7, cs.map TActor.encO⟩ :: T := by
  have ha : cs[j]? = some cs[j] := List.getElem?_eq_getElem hj
  generalize cs[j] = a at ha
  have ga : GdA n a.pa := hg _ (List.mem_map.2 ⟨a, List.mem_of_getElem? ha, rfl⟩)
  have eA : (cs.map TActor.encO).set j a.encO = cs.map TActor.encO := set_same (by simp [ha])
  have g0' : 0 ≤ a.Line := ga.l0
  obtain ⟨i, hL⟩ := Int.eq_ofNat_of_zero_le g0'
  rw [← eA]
  refine con_of c120 (by simp [F120]) ?_
  unfold F120
  by_cases hs0 : a.State = 0
  · simp [TActor.encO, hj, hL, hs0, putA]
    exact fin_all ⟨rfl, rfl⟩
  by_cases hs1 : a.State = 1
  · simp [TActor.encO, hj, hL, hs0, hs1, putA]
    exact fin_all ⟨rfl, rfl⟩
  · simp [TActor.encO, hj, hL, hs0, hs1, putA]
    exact fin_all ⟨rfl, rfl⟩

theorem impl_run {s : SL TLine} {d : SL TActor} {sch : SL Int} (hn : s.list.length ≤ 1048576) (hz : ∀ x, x ∈ s.list → x.Words.list.length ≤ 1048576) (hd : d.list.length ≤ 1048576) (hw : ∀ x, x ∈ d.list → x.Words.list.length ≤ 1048576) (hs : sch.list.length ≤ 1048576) (hi : ∀ k, k ∈ sch.list → -9223372036854775808 ≤ k ∧ k ≤ 9223372036854775807)
    (c : Nat) :
    Con Try.prog 66 [s.av 4 TLine.enc, d.av 7 TActor.enc, sch.av 1 encI] [] c fun r O _ => RunQ (runAll s.list d.list sch.list) r O := by
  refine con_run3 ?_
  refine con_of c66 (by simp [F66]) ?_
  unfold F66
  simp
  refine call_new (impl_copyO hn hz _) (Views.refl _ _) fun r O c1 hc ⟨b, hr, hO, hb⟩ _ _ => ?_
  subst hr
  by_cases hna : 0 < d.list.length
  rotate_left
  · -- no actors
    subst hO
    have hd0 : d.list = [] := List.eq_nil_of_length_eq_zero (by omega)
    refine ⟨_, .refl _, free_ref _ _ _, fun o ho => free_wood TLine.freeO TLine.freeI _ o ho _, ?_⟩
    simp
    refine call_newS (clone_con (b := 72) (z := [.bool false, .int .i64 0, .int .i64 0, .nsl, .int .i64 0, .int .i64 0, .int .i64 0]) c118 (by omega) (by unfold mx; omega) _) (Views.refl _ _) fun r O c2 hc2 ⟨x, hr, hO, hx⟩ => ?_
    subst hr; subst hO
    have hx0 : x.list = [] := by rw [hx, hd0]
    refine ⟨_, .refl _, free_ref _ _ _, fun o ho => ?_, ?_⟩
    · cases x with
      | nil => cases ho
      | mk t m =>
        simp at hx0; subst hx0
        rw [flat_wood] at ho; simp at ho; subst ho
        exact avRows_of fun row hr => by cases hr
    have hfin : ∀ c', finW (fun r O _ => (∃ tl ta nl na, r = .tup [.ref 0 tl 4 nl, .ref 1 ta 7 na] ∧ RunS tl ta nl na (runAll s.list d.list sch.list) O) ∨ (∃ ta na, r = .tup [.nsl, .ref 0 ta 7 na] ∧ RunS0 ta na (runAll s.list d.list sch.list) O) ∨ RunQ (runAll s.list d.list sch.list) r O) (.tup [b.ref 4, x.ref 7]) (b.wood 4 TLine.encO TLine.inn ++ x.wood 7 TActor.enc noInn) c' := fun c' => by
      refine fin_all (.inr (.inr ⟨b, x, rfl, ?_, ?_⟩))
      · congr 1
        cases x with
        | nil => rfl
        | mk t m => simp at hx0; subst hx0; rfl
      · rw [runAll, hd0, hx0, pl_of_con hb]; simp
    generalize b.wood 4 TLine.encO TLine.inn ++ x.wood 7 TActor.enc noInn = H0 at hfin
    have hdl : d.list.length = 0 := by omega
    simp
    refine loop_drop 0 (fun i e H c' => e 0 = s.av 4 TLine.enc ∧ e 1 = d.av 7 TActor.enc ∧ e 8 = b.ref 4 ∧ e 9 = x.ref 7 ∧ e 20 = .int .i64 0 ∧ e 21 = .int .i64 0 ∧ H = H0) ⟨rfl, rfl, rfl, rfl, by simp [upd, hdl], rfl, rfl⟩ ?_
    intro i e H c' hii ⟨e0, e1, e8, e9, e20, e21, hH⟩ N hN
    subst hH
    simp [e0, e1, e8, e9, e20, e21]
    refine call_fn (impl_areLines (by unfold mx; omega)) (Views.refl _ _) .bool fun _ _ => ?_
    cases h1 : areLines s.list
    · simp [e0, e1, e8, e9]
      exact hfin _
    simp [e0, e1, e8, e9]
    refine call_fn (impl_areActors (by unfold mx; omega)) (Views.refl _ _) .bool fun c3 _ => ?_
    cases h2 : areActors d.list
    · simp [e0, e1, e8, e9]
      exact hfin _
    · simp [e0, e1, e8, e9, hdl]
      exact hfin _
  rcases b with _ | ⟨tl, l⟩
  · have hs0 : s.list = [] := List.eq_nil_of_length_eq_zero (by have := congrArg List.length hb; simp at this; omega)
    have hO' : O = [] := hO
    subst hO'
    refine ⟨_, .refl _, free_ref _ _ _, by simp, ?_⟩
    simp [ref_nil]
    refine call_newS (clone_con (b := 72) (z := [.bool false, .int .i64 0, .int .i64 0, .nsl, .int .i64 0, .int .i64 0, .int .i64 0]) c118 (by omega) (by unfold mx; omega) _) (Views.refl _ _) fun r O c2 hc2 ⟨x, hr, hO, hx⟩ => ?_
    subst hr
    obtain ⟨ta, rfl⟩ : ∃ ta, x = .mk ta d.list := by
      cases x with
      | nil => simp at hx; rw [hx] at hna; simp at hna
      | mk t m => simp only [SL.list_mk] at hx; exact ⟨t, by rw [hx]⟩
    rw [flat_wood] at hO
    subst hO
    refine ⟨.ref 0 ta 7 d.list.length, .refl _, .ref, tidyA1 ?_, ?_⟩
    · exact avRows_of fun row hr a ha => by
        obtain ⟨y, _, rfl⟩ := List.mem_map.1 hr
        exact av_actor y a ha
    simp
    refine loop_drop d.list.length (fun i e H c' => e 0 = s.av 4 TLine.enc ∧ e 1 = d.av 7 TActor.enc ∧ e 2 = sch.av 1 encI ∧ e 8 = .nsl ∧ e 9 = .ref 0 ta 7 d.list.length ∧ e 19 = d.av 7 TActor.enc ∧ e 20 = .int .i64 d.list.length ∧ e 21 = .int .i64 i ∧
      ∃ ys : List TActor, ys.length = i ∧ ys.map TActor.pa = (d.list.take i).map TActor.pa ∧ H = ⟨false, ta, 7, cpA ys d.list i⟩ :: innA ys) ⟨rfl, rfl, rfl, rfl, rfl, rfl, rfl, rfl, [], rfl, rfl, by rw [cpA_zero]; simp [innA]⟩ ?_
    intro i e H c' hii ⟨e0, e1, e2, e8, e9, e19, e20, e21, ys, hy, hcon, hH⟩ N hN
    subst hH
    simp [e0, e1, e2, e8, e9, e19, e20, e21]
    refine ⟨fun h => ?_, fun h => ?_⟩
    · have hlen := cpA_len hy hii
      have hget := cpA_get hy h
      have hset := cpA_set hy h
      have hg : d.list[i]? = some d.list[i] := List.getElem?_eq_getElem h
      have hwx := hw _ (List.getElem_mem h)
      have htk : (d.list.take (i + 1)).map TActor.pa = (d.list.take i).map TActor.pa ++ [d.list[i].pa] := by rw [List.take_succ_eq_append_getElem h, List.map_append]; rfl
      generalize d.list[i] = x at hget hset hg hwx htk
      refine ⟨x, hg, ?_⟩
      simp [e0, e1, e2, e8, e9, e19, e20, e21, h, putA, TActor.enc]
      refine call_new (cloneIO hwx _) (Views.refl _ _) fun r O c2 hc2 ⟨w, hr, hO, hwl⟩ _ _ => ?_
      subst hr; subst hO
      refine ⟨_, .refl _, free_ref _ _ _, fun o ho => flat_free encI_flat _ _ o ho _, ?_⟩
      simp [e0, e1, e2, e8, e9, e19, e20, e21, h]
      refine ⟨_, hget, ?_⟩
      simp [hlen, putA, TActor.enc]
      refine hN _ _ (⟨false, ta, 7, cpA (ys ++ [⟨x.Writer, x.Line, x.Version, w, x.State, x.At, x.Seq⟩]) d.list (i + 1)⟩ :: innA (ys ++ [⟨x.Writer, x.Line, x.Version, w, x.State, x.At, x.Seq⟩])) _ h ?_ ⟨by simp [upd, e0], by simp [upd, e1], by simp [upd, e2], by simp [upd, e8], by simp [upd, e9], by simp [upd, e19], by simp [upd, e20], by simp [upd]; exact step64 (by unfold mx; omega) h, ys ++ [⟨x.Writer, x.Line, x.Version, w, x.State, x.At, x.Seq⟩], by simp [hy], ?_, rfl⟩
      · rw [innA_app, innA_one, ← hset]
        exact (List.Sublist.append (List.Sublist.refl _) ((List.Sublist.refl _).cons _)).cons_cons _
      · rw [List.map_append, hcon, htk]
        simp [TActor.pa, hwl]
    · have h1 : i = d.list.length := by omega
      subst h1
      rw [cpA_all]
      have hcl : ys.length = d.list.length := hy
      have hp0 : (([] : List PL), ys.map TActor.pa) = (s.list.map TLine.pl, d.list.map TActor.pa) := by rw [hs0, hcon, List.take_length]; rfl
      have start : RunS0 ta d.list.length (s.list.map TLine.pl, d.list.map TActor.pa) (⟨false, ta, 7, ys.map TActor.encO⟩ :: innA ys) :=
        ⟨ys, _, [], hcl, rfl, by simp, tidy0, hp0⟩
      generalize (⟨false, ta, 7, ys.map TActor.encO⟩ :: innA ys : List AObj) = H0 at start
      refine call_fn (impl_areLines (by unfold mx; omega)) (Views.refl _ _) .bool fun _ _ => ?_
      have hnz : ¬ d.list.length = 0 := by omega
      cases h1 : areLines s.list
      · simp [e0, e1, e2, e8, e9]
        exact fin_all (.inr (.inl ⟨ta, _, rfl, by rw [runAll, h1]; exact start⟩))
      simp [e0, e1, e2, e8, e9]
      refine call_fn (impl_areActors (by unfold mx; omega)) (Views.refl _ _) .bool fun c3 _ => ?_
      cases h2 : areActors d.list
      · simp [e0, e1, e2, e8, e9]
        exact fin_all (.inr (.inl ⟨ta, _, rfl, by rw [runAll, h1, h2]; exact start⟩))
      have hg0 := gd_start h1 h2
      have hall : runAll s.list d.list sch.list = runA (s.list.map TLine.pl, d.list.map TActor.pa) sch.list := by rw [runAll, h1, h2]; simp [hna]
      have hp1 : (s.list.map TLine.pl) = [] := by rw [hs0]; rfl
      have hlen0 : (s.list.map TLine.pl, d.list.map TActor.pa).2.length = d.list.length := by simp
      have hlenL : (s.list.map TLine.pl, d.list.map TActor.pa).1.length = 0 := by simp [hs0]
      generalize (s.list.map TLine.pl, d.list.map TActor.pa) = p0 at start hg0 hall hlen0 hlenL
      simp [e0, e1, e2, e8, e9, hnz]
      refine loop_drop sch.list.length (fun i e H c' => e 8 = .nsl ∧ e 9 = .ref 0 ta 7 d.list.length ∧ e 49 = sch.av 1 encI ∧ e 50 = .int .i64 sch.list.length ∧ e 51 = .int .i64 i ∧ RunS0 ta d.list.length (runA p0 (sch.list.take i)) H) ⟨by simp [upd, e8], by simp [upd, e9], by simp [upd, e2], by simp [upd, e2], rfl, by simpa [runA] using start⟩ ?_
      clear hii e0 e1 e2 e8 e9 e19 e20 e21 hN
      intro i e H c' hi' ⟨e8, e9, e49, e50, e51, hH⟩ N hN
      by_cases h : i < sch.list.length
      rotate_left
      · have : i = sch.list.length := by omega
        subst this
        simp [e8, e9, e49, e50, e51]
        exact fin_all (.inr (.inl ⟨ta, _, rfl, by rw [hall]; simpa using hH⟩))
      have hk : sch.list[i]? = some sch.list[i] := List.getElem?_eq_getElem h
      have hki := hi _ (List.getElem_mem h)
      have hst := run_take p0 sch.list h
      have hg := Gd.run hg0 sch.list i hi'
      have hlen := (run_len p0 (sch.list.take i)).2
      have hlenl := (run_len p0 (sch.list.take i)).1
      rw [hlen0] at hlen
      rw [hlenL] at hlenl
      generalize sch.list[i] = k at hk hki hst
      generalize runA p0 (sch.list.take i) = p at hH hst hg hlen hlenl
      have hp10 : p.1 = [] := List.eq_nil_of_length_eq_zero hlenl
      simp [e8, e9, e49, e50, e51, h]
      refine ⟨k, hk, ?_⟩
      have hwi : IntKind.i64.wrap ((i : Int) + 1) = ((i + 1 : Nat) : Int) := by rw [step64 (by unfold mx; omega) h]; rfl
      obtain ⟨cs, T, G, hc, hO, hp, hG, he⟩ := hH
      subst hO
      have tidyH : ∀ cs' : List TActor, innA cs' = innA cs → ∀ o, o ∈ (⟨false, ta, 7, cs'.map TActor.encO⟩ :: T : List AObj) → AvRows [] o := fun cs' hcs o ho => tidyC (tidy_A ta cs') (fun o ho => tidyA (tidy_innA cs) hG o (hp.mem_iff.1 ho)) o ho []
      by_cases hk0 : 0 ≤ k
      · have hj0 : 0 ≤ k.tmod d.list.length := Int.tmod_nonneg _ hk0
        have hj1 : k.tmod d.list.length < d.list.length := Int.tmod_lt_of_pos _ (by omega)
        have hstep : stepA k p = accAt (k.tmod d.list.length).toNat p := by unfold stepA; rw [if_pos hk0, hlen]
        obtain ⟨j, hj⟩ := Int.eq_ofNat_of_zero_le hj0
        rw [hj] at hj1 hstep
        have hsame : accAt (Int.ofNat j).toNat p = p := by
          unfold accAt; rw [hp10]
          split
          · rfl
          · simp
        simp [e8, e9, e49, e50, e51, h, hk0, hnz, hj]
        rw [← hc]
        refine call_con (impl_access0 (n := i) (by omega) (by rw [← he] at hg; exact hg.a)) fun r H' c'' _ ⟨q1, q2⟩ _ _ => ?_
        subst q1; subst q2
        refine ⟨.tup (by simp), tidyH cs rfl, ?_⟩
        simp [e8, e9, e49, e50, e51, hwi]
        refine hN _ _ _ _ h (List.Sublist.refl _) ⟨by simp [upd, e8], by simp [upd, e9], by simp [upd, e49], by simp [upd, e50], by simp [upd], ?_⟩
        rw [hst, hstep]
        exact ⟨cs, T, G, hc, rfl, hp, hG, he.trans hsame.symm⟩
      · have w1 : IntKind.i64.wrap (k + 1) = k + 1 := wrap64 (by omega) (by omega)
        have w2 : IntKind.i64.wrap (-(k + 1)) = -(k + 1) := wrap64 (by omega) (by omega)
        have hj0 : 0 ≤ (-(k + 1)).tmod d.list.length := Int.tmod_nonneg _ (by omega)
        have hj1 : (-(k + 1)).tmod d.list.length < d.list.length := Int.tmod_lt_of_pos _ (by omega)
        have hstep : stepA k p = killAt ((-(k + 1)).tmod d.list.length).toNat p := by unfold stepA; rw [if_neg hk0, hlen]
        obtain ⟨j, hj⟩ := Int.eq_ofNat_of_zero_le hj0
        rw [hj] at hj1 hstep
        have hjl : j < d.list.length := by omega
        have ha : cs[j]? = some cs[j] := List.getElem?_eq_getElem (by omega)
        generalize cs[j] = a at ha
        have eA : (cs.map TActor.encO).set j a.encO = cs.map TActor.encO := set_same (by simp [ha])
        rw [← eA]
        have hjc : j < cs.length := by omega
        have w3 : IntKind.i64.wrap ((j : Int) + 1) = j + 1 := wrap64 (by omega) (by omega)
        rw [Int.toNat_natCast] at hstep
        have hpj : p.2[j]? = some a.pa := by rw [← he]; simp [ha]
        have hkill : killAt j p = ([], p.2.set j (deadP a.pa)) := by unfold killAt; rw [hpj, hp10]; rfl
        have fin : ∀ (a' : TActor), a'.pa = deadP a.pa → a'.inn = a.inn → RunS0 ta d.list.length (runA p0 (sch.list.take (i + 1))) (⟨false, ta, 7, (cs.map TActor.encO).set j a'.encO⟩ :: T) := fun a' h1 h2 => by
          rw [hst, hstep, hkill]
          refine ⟨cs.set j a', T, G, by simpa using hc, by rw [List.map_set], ?_, hG, ?_⟩
          · refine hp.trans (List.Perm.append_right _ ?_)
            refine (perm_actor ha).trans ?_
            rw [← h2]
            exact (perm_actor' hjc a').symm
          · rw [← he, List.map_set, h1]
        have rec0 : Fnc Try.prog 103 [.nsl, .int .i64 ((j : Int) + 1)] (.tup []) := fun c => impl_recoverO (s := .nil) (owner := (j : Int) + 1) (by simp) (by simp) c
        by_cases s0 : a.State = 0
        · simp [e8, e9, e49, e50, e51, h, hk0, hnz, w1, w2, w3, hj, hjl, hjc, TActor.encO, putA, s0]
          refine call_fn0 rec0 (.tup (by simp)) fun _ _ => ?_
          simp [e8, e9, e49, e50, e51, hwi]
          exact hN _ _ _ _ h (List.Sublist.refl _) ⟨by simp [upd, e8], by simp [upd, e9], by simp [upd, e49], by simp [upd, e50], by simp [upd], fin ⟨a.Writer, a.Line, a.Version, a.Words, 4, a.At, a.Seq⟩ (by simp [TActor.pa, deadP, s0]) rfl⟩
        by_cases s1 : a.State = 1
        · simp [e8, e9, e49, e50, e51, h, hk0, hnz, w1, w2, w3, hj, hjl, hjc, TActor.encO, putA, s0, s1]
          refine call_fn0 rec0 (.tup (by simp)) fun _ _ => ?_
          simp [e8, e9, e49, e50, e51, hwi]
          exact hN _ _ _ _ h (List.Sublist.refl _) ⟨by simp [upd, e8], by simp [upd, e9], by simp [upd, e49], by simp [upd, e50], by simp [upd], fin ⟨a.Writer, a.Line, a.Version, a.Words, 4, a.At, a.Seq⟩ (by simp [TActor.pa, deadP, s1]) rfl⟩
        · simp [e8, e9, e49, e50, e51, h, hk0, hnz, w1, w2, w3, hj, hjl, hjc, TActor.encO, putA, s0, s1]
          refine call_fn0 rec0 (.tup (by simp)) fun _ _ => ?_
          simp [e8, e9, e49, e50, e51, hwi]
          exact hN _ _ _ _ h (List.Sublist.refl _) ⟨by simp [upd, e8], by simp [upd, e9], by simp [upd, e49], by simp [upd, e50], by simp [upd], fin a (by simp [TActor.pa, deadP, s0, s1]) rfl⟩
  rw [wood_inns] at hO
  subst hO
  simp only [SL.list_mk] at hb
  refine ⟨_, .refl _, free_ref _ _ _, fun o ho => tidyC (tidy_L tl l) (tidy_inns l) o ho _, ?_⟩
  simp
  refine call_new1 (clone_con (b := 72) (z := [.bool false, .int .i64 0, .int .i64 0, .nsl, .int .i64 0, .int .i64 0, .int .i64 0]) c118 (by omega) (by unfold mx; omega) _) (Views.refl _ _) fun r O c2 hc2 ⟨x, hr, hO, hx⟩ => ?_
  subst hr
  obtain ⟨ta, rfl⟩ : ∃ ta, x = .mk ta d.list := by
    cases x with
    | nil => simp at hx; rw [hx] at hna; simp at hna
    | mk t m => simp only [SL.list_mk] at hx; exact ⟨t, by rw [hx]⟩
  rw [flat_wood] at hO
  subst hO
  refine ⟨.ref 1 ta 7 d.list.length, _, _, rfl, .name, .ref, tidyA1 ?_, ?_⟩
  · exact avRows_of fun row hr a ha => by
      obtain ⟨y, _, rfl⟩ := List.mem_map.1 hr
      exact av_actor y a ha
  have hbl : l.length = s.list.length := by simpa using congrArg List.length hb
  have hpl := pl_of_con hb
  rw [ref_mk, hbl]
  simp
  refine loop_drop d.list.length (fun i e H c' => e 0 = s.av 4 TLine.enc ∧ e 1 = d.av 7 TActor.enc ∧ e 2 = sch.av 1 encI ∧ e 8 = .ref 0 tl 4 s.list.length ∧ e 9 = .ref 1 ta 7 d.list.length ∧ e 19 = d.av 7 TActor.enc ∧ e 20 = .int .i64 d.list.length ∧ e 21 = .int .i64 i ∧
    ∃ ys : List TActor, ys.length = i ∧ ys.map TActor.pa = (d.list.take i).map TActor.pa ∧ H = ⟨false, tl, 4, l.map TLine.encO⟩ :: ⟨false, ta, 7, cpA ys d.list i⟩ :: (inns l ++ innA ys)) ⟨rfl, rfl, rfl, rfl, rfl, rfl, rfl, rfl, [], rfl, rfl, by rw [cpA_zero]; simp [innA]⟩ ?_
  intro i e H c' hii ⟨e0, e1, e2, e8, e9, e19, e20, e21, ys, hy, hcon, hH⟩ N hN
  subst hH
  simp [e0, e1, e2, e8, e9, e19, e20, e21]
  refine ⟨fun h => ?_, fun h => ?_⟩
  · have hlen := cpA_len hy hii
    have hget := cpA_get hy h
    have hset := cpA_set hy h
    have hg : d.list[i]? = some d.list[i] := List.getElem?_eq_getElem h
    have hwx := hw _ (List.getElem_mem h)
    have htk : (d.list.take (i + 1)).map TActor.pa = (d.list.take i).map TActor.pa ++ [d.list[i].pa] := by rw [List.take_succ_eq_append_getElem h, List.map_append]; rfl
    generalize d.list[i] = x at hget hset hg hwx htk
    refine ⟨x, hg, ?_⟩
    generalize hT : inns l ++ innA ys = T0
    simp [e0, e1, e2, e8, e9, e19, e20, e21, h, putA, TActor.enc]
    refine call_new (cloneIO hwx _) (Views.refl _ _) fun r O c2 hc2 ⟨w, hr, hO, hwl⟩ _ _ => ?_
    subst hr; subst hO
    refine ⟨_, .refl _, free_ref _ _ _, fun o ho => flat_free encI_flat _ _ o ho _, ?_⟩
    simp [e0, e1, e2, e8, e9, e19, e20, e21, h]
    refine ⟨_, hget, ?_⟩
    simp [hlen, putA, TActor.enc]
    refine hN _ _ (⟨false, tl, 4, l.map TLine.encO⟩ :: ⟨false, ta, 7, cpA (ys ++ [⟨x.Writer, x.Line, x.Version, w, x.State, x.At, x.Seq⟩]) d.list (i + 1)⟩ :: (inns l ++ innA (ys ++ [⟨x.Writer, x.Line, x.Version, w, x.State, x.At, x.Seq⟩]))) _ h ?_ ⟨by simp [upd, e0], by simp [upd, e1], by simp [upd, e2], by simp [upd, e8], by simp [upd, e9], by simp [upd, e19], by simp [upd, e20], by simp [upd]; exact step64 (by unfold mx; omega) h, ys ++ [⟨x.Writer, x.Line, x.Version, w, x.State, x.At, x.Seq⟩], by simp [hy], ?_, rfl⟩
    · subst hT
      rw [innA_app, innA_one, ← hset]
      simp only [List.append_assoc]
      exact (List.Sublist.append (List.Sublist.refl _) (List.Sublist.append (List.Sublist.refl _) ((List.Sublist.refl _).cons _))).cons_cons _ |>.cons_cons _
    · rw [List.map_append, hcon, htk]
      simp [TActor.pa, hwl]
  · have h1 : i = d.list.length := by omega
    subst h1
    rw [cpA_all]
    have hcl : ys.length = d.list.length := hy
    have hp0 : (l.map TLine.pl, ys.map TActor.pa) = (s.list.map TLine.pl, d.list.map TActor.pa) := by rw [hpl, hcon, List.take_length]
    have start : RunS tl ta s.list.length d.list.length (s.list.map TLine.pl, d.list.map TActor.pa) (⟨false, tl, 4, l.map TLine.encO⟩ :: ⟨false, ta, 7, ys.map TActor.encO⟩ :: (inns l ++ innA ys)) :=
      ⟨l, ys, _, [], hbl, hcl, rfl, by simp, tidy0, hp0⟩
    generalize (⟨false, tl, 4, l.map TLine.encO⟩ :: ⟨false, ta, 7, ys.map TActor.encO⟩ :: (inns l ++ innA ys) : List AObj) = H0 at start
    refine call_fn (impl_areLines (by unfold mx; omega)) (Views.refl _ _) .bool fun _ _ => ?_
    have hnz : ¬ d.list.length = 0 := by omega
    cases h1 : areLines s.list
    · simp [e0, e1, e2, e8, e9]
      exact fin_all (.inl ⟨tl, ta, _, _, rfl, by rw [runAll, h1]; exact start⟩)
    simp [e0, e1, e2, e8, e9]
    refine call_fn (impl_areActors (by unfold mx; omega)) (Views.refl _ _) .bool fun c3 _ => ?_
    cases h2 : areActors d.list
    · simp [e0, e1, e2, e8, e9]
      exact fin_all (.inl ⟨tl, ta, _, _, rfl, by rw [runAll, h1, h2]; exact start⟩)
    have hg0 := gd_start h1 h2
    have hall : runAll s.list d.list sch.list = runA (s.list.map TLine.pl, d.list.map TActor.pa) sch.list := by rw [runAll, h1, h2]; simp [hna]
    generalize hp : (s.list.map TLine.pl, d.list.map TActor.pa) = p0 at start hg0 hall
    have hlen0 : p0.2.length = d.list.length := by rw [← hp]; simp
    simp [e0, e1, e2, e8, e9, hnz]
    refine loop_drop sch.list.length (fun i e H c' => e 8 = .ref 0 tl 4 s.list.length ∧ e 9 = .ref 1 ta 7 d.list.length ∧ e 49 = sch.av 1 encI ∧ e 50 = .int .i64 sch.list.length ∧ e 51 = .int .i64 i ∧ RunS tl ta s.list.length d.list.length (runA p0 (sch.list.take i)) H) ⟨by simp [upd, e8], by simp [upd, e9], by simp [upd, e2], by simp [upd, e2], rfl, by simpa [runA] using start⟩ ?_
    clear hii e0 e1 e2 e8 e9 e19 e20 e21 hN
    intro i e H c' hi' ⟨e8, e9, e49, e50, e51, hH⟩ N hN
    by_cases h : i < sch.list.length
    rotate_left
    · have : i = sch.list.length := by omega
      subst this
      simp [e8, e9, e49, e50, e51]
      exact fin_all (.inl ⟨tl, ta, _, _, rfl, by rw [hall]; simpa using hH⟩)
    have hk : sch.list[i]? = some sch.list[i] := List.getElem?_eq_getElem h
    have hki := hi _ (List.getElem_mem h)
    have hst := run_take p0 sch.list h
    have hg := Gd.run hg0 sch.list i hi'
    have hlen := (run_len p0 (sch.list.take i)).2
    rw [hlen0] at hlen
    generalize sch.list[i] = k at hk hki hst
    generalize runA p0 (sch.list.take i) = p at hH hst hg hlen
    simp [e8, e9, e49, e50, e51, h]
    refine ⟨k, hk, ?_⟩
    have hwi : IntKind.i64.wrap ((i : Int) + 1) = ((i + 1 : Nat) : Int) := by rw [step64 (by unfold mx; omega) h]; rfl
    by_cases hk0 : 0 ≤ k
    · have hj0 : 0 ≤ k.tmod d.list.length := Int.tmod_nonneg _ hk0
      have hj1 : k.tmod d.list.length < d.list.length := Int.tmod_lt_of_pos _ (by omega)
      have hstep : stepA k p = accAt (k.tmod d.list.length).toNat p := by unfold stepA; rw [if_pos hk0, hlen]
      obtain ⟨j, hj⟩ := Int.eq_ofNat_of_zero_le hj0
      rw [hj] at hj1 hstep
      simp [e8, e9, e49, e50, e51, h, hk0, hnz, hj]
      refine call_con (acc_loop (n := i) (by omega) hg (by omega) hn hd hH fun l cs G q1 q2 q3 q4 q5 => impl_access (by omega) q1 q2 q3 q4 q5) fun r H' c'' _ ⟨q1, q2, q3⟩ _ _ => ?_
      subst q1
      refine ⟨.tup (by simp), q3, ?_⟩
      simp [e8, e9, e49, e50, e51, hwi]
      refine hN _ _ _ _ h (List.Sublist.refl _) ⟨by simp [upd, e8], by simp [upd, e9], by simp [upd, e49], by simp [upd, e50], by simp [upd], ?_⟩
      rw [hst, hstep]; exact q2
    · have w1 : IntKind.i64.wrap (k + 1) = k + 1 := wrap64 (by omega) (by omega)
      have w2 : IntKind.i64.wrap (-(k + 1)) = -(k + 1) := wrap64 (by omega) (by omega)
      have hj0 : 0 ≤ (-(k + 1)).tmod d.list.length := Int.tmod_nonneg _ (by omega)
      have hj1 : (-(k + 1)).tmod d.list.length < d.list.length := Int.tmod_lt_of_pos _ (by omega)
      have hstep : stepA k p = killAt ((-(k + 1)).tmod d.list.length).toNat p := by unfold stepA; rw [if_neg hk0, hlen]
      obtain ⟨j, hj⟩ := Int.eq_ofNat_of_zero_le hj0
      rw [hj] at hj1 hstep
      have hjl : j < d.list.length := by omega
      obtain ⟨l, cs, T, G, hl, hc, hO, hp, hG, he⟩ := hH
      subst hO
      have ha : cs[j]? = some cs[j] := List.getElem?_eq_getElem (by omega)
      generalize cs[j] = a at ha
      have eA : (cs.map TActor.encO).set j a.encO = cs.map TActor.encO := set_same (by simp [ha])
      rw [← eA]
      have hjc : j < cs.length := by omega
      have w3 : IntKind.i64.wrap ((j : Int) + 1) = j + 1 := wrap64 (by omega) (by omega)
      have key := fun (a' : TActor) cc h1 h2 => kill_loop (tl := tl) (ta := ta) (c := cc) (a' := a') (n := i) (by omega) hg hn hl hc ha hp hG he h1 h2 fun l q1 q2 => impl_recoverO1 (owner := (j : Int) + 1) q1 q2 tl cc
      rw [Int.toNat_natCast] at hstep
      rw [← hstep, ← hst] at key
      by_cases s0 : a.State = 0
      · simp [e8, e9, e49, e50, e51, h, hk0, hnz, w1, w2, w3, hj, hjl, hjc, TActor.encO, putA, s0]
        refine call_con (key ⟨a.Writer, a.Line, a.Version, a.Words, 4, a.At, a.Seq⟩ _ (by simp [TActor.pa, deadP, s0]) rfl) fun r H' c'' _ ⟨q1, q2, q3⟩ _ _ => ?_
        subst q1
        refine ⟨.tup (by simp), q3, ?_⟩
        simp [e8, e9, e49, e50, e51, hwi]
        exact hN _ _ _ _ h (List.Sublist.refl _) ⟨by simp [upd, e8], by simp [upd, e9], by simp [upd, e49], by simp [upd, e50], by simp [upd], q2⟩
      by_cases s1 : a.State = 1
      · simp [e8, e9, e49, e50, e51, h, hk0, hnz, w1, w2, w3, hj, hjl, hjc, TActor.encO, putA, s0, s1]
        refine call_con (key ⟨a.Writer, a.Line, a.Version, a.Words, 4, a.At, a.Seq⟩ _ (by simp [TActor.pa, deadP, s1]) rfl) fun r H' c'' _ ⟨q1, q2, q3⟩ _ _ => ?_
        subst q1
        refine ⟨.tup (by simp), q3, ?_⟩
        simp [e8, e9, e49, e50, e51, hwi]
        exact hN _ _ _ _ h (List.Sublist.refl _) ⟨by simp [upd, e8], by simp [upd, e9], by simp [upd, e49], by simp [upd, e50], by simp [upd], q2⟩
      · simp [e8, e9, e49, e50, e51, h, hk0, hnz, w1, w2, w3, hj, hjl, hjc, TActor.encO, putA, s0, s1]
        refine call_con (key a _ (by simp [TActor.pa, deadP, s0, s1]) rfl) fun r H' c'' _ ⟨q1, q2, q3⟩ _ _ => ?_
        subst q1
        refine ⟨.tup (by simp), q3, ?_⟩
        simp [e8, e9, e49, e50, e51, hwi]
        exact hN _ _ _ _ h (List.Sublist.refl _) ⟨by simp [upd, e8], by simp [upd, e9], by simp [upd, e49], by simp [upd, e50], by simp [upd], q2⟩
end A
end Go.Proofs.Ytgiiipbpadgcgaa

/-
  Lines, actors and an order that are drawn. No condition.
-/


namespace Go.Proofs.Ytgiiipbpadgcgaa
namespace A
set_option linter.unusedVariables false
set_option linter.unusedSimpArgs false
set_option maxRecDepth 100000

/-- A call that is handed the cursor alone and hands back objects of its own. -/
theorem call_curN {P : Program} {f : Nat} {l : List AV} {t i : Nat} {h : Int} {s : SL Int} {C : List AObj} {c : Nat} {Q : AV → List AObj → Nat → Prop} {K : AV → List AObj → Nat → Prop} (hf : Con P f l [cur t s i h] c Q)
    (k : ∀ r O c', c ≤ c' → Q r O c' → ∃ (i' : Nat) (h' : Int) (M : List AObj) (r' : AV), O = cur t s i' h' :: M ∧ View [] r r' ∧ Av [] r' ∧ (∀ o, o ∈ O → AvRows [] o) ∧ K r' (cur t s i' h' :: (C ++ M)) c') : CallW P f l (cur t s i h :: C) c K := by
  intro hn hlt
  obtain ⟨v1, v2⟩ := (Views.refl [] l).spec
  have eT : ∀ (i : Nat) (h : Int) (X : List AObj), tags (cur t s i h :: X) = t :: tags X := fun i h X => by simp [tags, cur]
  rw [eT] at hn
  have hN := List.nodup_cons.1 hn
  refine ⟨[cur t s i h], [], l, Q, (List.nil_sublist _).cons_cons _, by simp, by simp [tags], v1, v2, hf, fun r O c' hc hq ho hd => ?_⟩
  obtain ⟨i', h', M, r', e, k1, k2, k3, k4⟩ := k r O c' hc hq
  subst e
  rw [eT] at hd
  have hM := List.nodup_cons.1 hd
  have hfr : ∀ u, u ∈ tags M → c ≤ u := fun u hu => by
    rcases Nat.lt_or_ge u c with h | h
    · have := ho u h (by rw [eT]; exact List.mem_cons_of_mem _ hu)
      rw [eT] at this
      simp [tags] at this
      subst this
      exact absurd hu hM.1
    · exact h
  refine ⟨_, r', fun o h => ?_, ?_, k1, k2, fun o _ h => k3 o h, k4⟩
  · rcases List.mem_cons.1 h with rfl | h
    · exact .inl (List.mem_cons_self ..)
    · rcases List.mem_append.1 h with h | h
      · refine .inr ⟨List.mem_cons_of_mem _ h, fun hm => ?_⟩
        rw [eT] at hm
        simp [tags] at hm
        exact hN.1 (hm ▸ mem_tags h)
      · exact .inl (List.mem_cons_of_mem _ h)
  · rw [eT]
    have e2 : tags (C ++ M) = tags C ++ tags M := by simp [tags]
    rw [e2]
    refine List.nodup_cons.2 ⟨fun hm => ?_, List.nodup_append.2 ⟨hN.2, hM.2, fun a ha b hb hab => ?_⟩⟩
    · rcases List.mem_append.1 hm with hm | hm
      · exact hN.1 hm
      · exact hM.1 hm
    · subst hab
      have : a < c := hlt a (by rw [eT]; exact List.mem_cons_of_mem _ ha)
      exact absurd this (Nat.not_lt.2 (hfr a hb))

def smL (x : TLine) : Prop := 0 ≤ x.Seq ∧ x.Seq ≤ 6 ∧ x.Seq % 2 = 0 ∧ x.Owner = 0 ∧ 0 ≤ x.Version ∧ x.Version ≤ 3 ∧ x.Words.list.length ≤ 3
def smA (x : TActor) : Prop := 0 ≤ x.Line ∧ x.Line ≤ 1 ∧ 1 ≤ x.Version ∧ x.Version ≤ 3 ∧ x.Words.list.length ≤ 5 ∧ x.State = 0 ∧ x.At = 0 ∧ x.Seq = 0 ∧ (x.Writer = false → x.Words.list = [])

def LinesQ (t : Nat) (s : SL Int) (r : AV) (O : List AObj) : Prop := ∃ (tl : Nat) (l : List TLine) (i' : Nat) (h' : Int), r = .ref 1 tl 4 l.length ∧ O = cur t s i' h' :: ⟨false, tl, 4, l.map TLine.encO⟩ :: inns l ∧ i' ≤ s.list.length ∧ 1 ≤ l.length ∧ l.length ≤ 3 ∧ ∀ x, x ∈ l → smL x
theorem l34Draw_con {t i : Nat} {h : Int} {s : SL Int} (hi : i ≤ s.list.length) (hn : s.list.length ≤ 1048576) (c : Nat) :
    Con Try.prog 115 [.ptr 0 t 3 0 0] [cur t s i h] c fun r O _ => LinesQ t s r O := by
  refine con_of c115 (by simp [F115]) ?_
  unfold F115
  simp
  refine call_num (l1Below_con hi hn (by omega) _) fun x i1 h1 c1 _ x0 x1 k1 => ?_
  rw [if_neg (by omega)] at x1
  obtain ⟨x, rfl⟩ := Int.eq_ofNat_of_zero_le x0
  have hw0 : IntKind.i64.wrap (1 + (x : Int)) = ((x + 1 : Nat) : Int) := by rw [wrap64 (by omega) (by omega)]; omega
  simp [hw0]
  refine loop_drop (x + 1) (fun j e H c' => e 0 = .ptr 0 t 3 0 0 ∧ e 4 = .int .i64 (x + 1 - j : Nat) ∧ ∃ (tl : Nat) (ks : List (Nat × TLine)) (i : Nat) (h : Int), e 3 = .ref 1 tl 4 j ∧ ks.length = j ∧ H = cur t s i h :: ⟨false, tl, 4, rowsX ks⟩ :: inns (ks.map (·.2)) ∧ i ≤ s.list.length ∧ ∀ x, x ∈ ks.map (·.2) → smL x) ⟨rfl, rfl, _, [], i1, h1, rfl, rfl, rfl, k1, by simp⟩ ?_
  intro j e H c' hj ⟨e0, e4, tl, ks, i2, h2, e3, hy, hH, k2, hb⟩ N hN
  subst hH
  have hrl : (rowsX ks).length = j := by simp [rowsX, hy]
  generalize hys : ks.map (·.2) = ys at hb
  have hyl : ys.length = j := by rw [← hys]; simpa using hy
  by_cases hd : x + 1 - j = 0
  · simp [e0, e3, e4, hd]
    refine fin_ren (List.Sublist.refl _) (.cons (.refl _ _) (.cons (renX tl ks) (.refl _ _))) (.refl _) ⟨tl, ys, i2, h2, by rw [hyl], by rw [hys], k2, by omega, by omega, hb⟩
  have hjx : j < x + 1 := by omega
  have hdp : 0 < x + 1 - j := by omega
  have hdp' : (0 : Int) < ((x + 1 - j : Nat) : Int) := by omega
  have hdec : IntKind.i64.wrap (((x + 1 - j : Nat) : Int) - 1) = ((x + 1 - (j + 1) : Nat) : Int) := by rw [wrap64 (by omega) (by omega)]; omega
  have m3 : (j + 1) * 48 ≤ 140737488355328 := by omega
  have m4 : j + 1 ≤ mx := by unfold mx; omega
  generalize hq : x + 1 - j = q at e4 hdp hdp' hdec
  simp [e0, e3, e4, hdp, hdp']
  refine call_num (l1Below_con k2 hn (by omega) _) fun y i3 h3 c3 _ y0 y1 k3 => ?_
  rw [if_neg (by omega)] at y1
  have hw1 : IntKind.i64.wrap (2 * y) = 2 * y := wrap64 (by omega) (by omega)
  simp [e0, e3, e4, hw1, putA]
  refine call_bool (l1Once_con (n := 2) k3 hn (by omega) _) fun b i4 h4 c4 _ k4 => ?_
  cases b
  · simp [e0, e3, e4, putA, m3, m4, hrl, hdec]
    refine hN _ _ (cur t s i4 h4 :: ⟨false, c4 + 1, 4, rowsX (ks ++ [(0, TLine.mk (2 * y) 0 0 .nil)])⟩ :: inns ((ks ++ [(0, TLine.mk (2 * y) 0 0 .nil)]).map fun p : Nat × TLine => p.2)) _ hjx ?_ ⟨by simp [upd, e0], by simp [upd], c4 + 1, _, i4, h4, by simp [upd], by simp [hy], rfl, k4, fun w hw => ?_⟩
    · rw [List.map_append, inns_app, hys]
      have e1 : rowsX (ks ++ [(0, TLine.mk (2 * y) 0 0 .nil)]) = rowsX ks ++ [[.int .i64 (2 * y), .int .i64 0, .int .i64 0, .nsl]] := by simp [rowsX, encX, SL.at_]
      rw [e1]
      refine List.Sublist.cons_cons _ (List.Sublist.cons_cons _ (List.Sublist.append (List.Sublist.refl _) ?_))
      exact List.nil_sublist _
    · rw [List.map_append, hys] at hw
      rcases List.mem_append.1 hw with hw | hw
      · exact hb w hw
      · simp at hw; subst hw
        exact ⟨by simp; omega, by simp; omega, by simp, rfl, by simp, by simp, by simp⟩
  · simp [e0, e3, e4, putA]
    refine call_num (l1Below_con k4 hn (by omega) _) fun z i5 h5 c5 _ z0 z1 k5 => ?_
    rw [if_neg (by omega)] at z1
    have hw2 : IntKind.i64.wrap (1 + z) = 1 + z := wrap64 (by omega) (by omega)
    simp [e0, e3, e4, hw2, putA]
    refine call_num (l1Below_con k5 hn (by omega) _) fun u i6 h6 c6 _ u0 u1 k6 => ?_
    simp [e0, e3, e4, hw2, putA]
    refine call_num (l1Below_con k6 hn (by omega) _) fun v i7 h7 c7 _ v0 v1 k7 => ?_
    simp [e0, e3, e4, putA, m3, m4, hrl, hdec]
    refine hN _ _ (cur t s i7 h7 :: ⟨false, c7 + 1 + 1, 4, rowsX (ks ++ [((inns ys).length + 1 + 1 + 1, TLine.mk (2 * y) 0 (1 + z) (.mk c7 [u, v, 7]))])⟩ :: inns ((ks ++ [((inns ys).length + 1 + 1 + 1, TLine.mk (2 * y) 0 (1 + z) (.mk c7 [u, v, 7]))]).map fun p : Nat × TLine => p.2)) _ hjx ?_ ⟨by simp [upd, e0], by simp [upd], c7 + 1 + 1, _, i7, h7, by simp [upd], by simp [hy], rfl, k7, fun w hw => ?_⟩
    · rw [List.map_append, inns_app, hys]
      have e1 : rowsX (ks ++ [((inns ys).length + 1 + 1 + 1, TLine.mk (2 * y) 0 (1 + z) (.mk c7 [u, v, 7]))]) = rowsX ks ++ [[.int .i64 (2 * y), .int .i64 0, .int .i64 (1 + z), .ref ((inns ys).length + 1 + 1 + 1) c7 1 3]] := by simp [rowsX, encX, SL.at_]
      rw [e1]
      refine List.Sublist.cons_cons _ (List.Sublist.cons_cons _ (List.Sublist.append (List.Sublist.refl _) ?_))
      simp only [List.map_cons, List.map_nil, inns_one, TLine.inn, flat_wood]
      exact (sub_one _ _).cons _
    · rw [List.map_append, hys] at hw
      rcases List.mem_append.1 hw with hw | hw
      · exact hb w hw
      · simp at hw; subst hw
        exact ⟨by simp; omega, by simp; omega, by simp, rfl, by simp; omega, by simp; omega, by simp⟩
def ActorsQ (t : Nat) (s : SL Int) (r : AV) (O : List AObj) : Prop := ∃ (ta : Nat) (l : List TActor) (i' : Nat) (h' : Int), r = .ref 1 ta 7 l.length ∧ O = cur t s i' h' :: ⟨false, ta, 7, l.map TActor.encO⟩ :: innA l ∧ i' ≤ s.list.length ∧ 2 ≤ l.length ∧ l.length ≤ 5 ∧ ∀ x, x ∈ l → smA x
def OrderQ (t : Nat) (s : SL Int) (r : AV) (O : List AObj) : Prop := ∃ (to : Nat) (l : List Int) (i' : Nat) (h' : Int), r = .ref 1 to 1 l.length ∧ O = [cur t s i' h', ⟨false, to, 1, l.map encI⟩] ∧ i' ≤ s.list.length ∧ l.length ≤ 160 ∧ ∀ x, x ∈ l → -6 ≤ x ∧ x ≤ 5
theorem l34Order_con {t i : Nat} {h : Int} {s : SL Int} (hi : i ≤ s.list.length) (hn : s.list.length ≤ 1048576) (c : Nat) :
    Con Try.prog 117 [.ptr 0 t 3 0 0] [cur t s i h] c fun r O _ => OrderQ t s r O := by
  refine con_of c117 (by simp [F117]) ?_
  unfold F117
  simp
  refine call_num (l1Below_con hi hn (by omega) _) fun x i1 h1 c1 _ x0 x1 k1 => ?_
  rw [if_neg (by omega)] at x1
  obtain ⟨x, rfl⟩ := Int.eq_ofNat_of_zero_le x0
  simp
  refine loop_drop x (fun j e H c' => e 0 = .ptr 0 t 3 0 0 ∧ e 4 = .int .i64 (x - j : Nat) ∧ ∃ (to : Nat) (l : List Int) (i : Nat) (h : Int), e 3 = .ref 1 to 1 l.length ∧ l.length ≤ 2 * j ∧ H = [cur t s i h, ⟨false, to, 1, l.map encI⟩] ∧ i ≤ s.list.length ∧ ∀ x, x ∈ l → -6 ≤ x ∧ x ≤ 5) ⟨rfl, rfl, _, [], i1, h1, rfl, by simp, rfl, k1, by simp⟩ ?_
  intro j e H c' hj ⟨e0, e4, to, l, i2, h2, e3, hy, hH, k2, hb⟩ N hN
  subst hH
  by_cases hd : x - j = 0
  · simp [e0, e3, e4, hd]
    exact fin_all ⟨to, l, i2, h2, rfl, rfl, k2, by omega, hb⟩
  have hjx : j < x := by omega
  have hdp : 0 < x - j := by omega
  have hdp' : (0 : Int) < ((x - j : Nat) : Int) := by omega
  have hdec : IntKind.i64.wrap (((x - j : Nat) : Int) - 1) = ((x - (j + 1) : Nat) : Int) := by rw [wrap64 (by omega) (by omega)]; omega
  have m1 : (l.length + 1) * 8 ≤ 140737488355328 := by omega
  have m2 : l.length + 1 ≤ mx := by unfold mx; omega
  have m3 : (l.length + 1 + 1) * 8 ≤ 140737488355328 := by omega
  have m4 : l.length + 1 + 1 ≤ mx := by unfold mx; omega
  generalize hq : x - j = q at e4 hdp hdp' hdec
  simp [e0, e3, e4, hdp, hdp']
  refine call_num (l1Below_con k2 hn (by omega) _) fun y i3 h3 c3 _ y0 y1 k3 => ?_
  rw [if_neg (by omega)] at y1
  simp [e0, e3, e4, putA, m1, m2]
  refine call_bool (l1Once_con (n := 30) k3 hn (by omega) _) fun b i4 h4 c4 _ k4 => ?_
  have hb2 : ∀ w, w ∈ l ++ [y] → -6 ≤ w ∧ w ≤ 5 := fun w hw => by
    rcases List.mem_append.1 hw with hw | hw
    · exact hb w hw
    · simp at hw; subst hw; omega
  cases b
  · simp [e0, e3, e4, hdec]
    exact hN _ _ _ _ hjx (sub_two _ _ _) ⟨by simp [upd, e0], by simp [upd], c3 + 1, l ++ [y], i4, h4, by simp [upd], by simp; omega, by simp [encI], k4, hb2⟩
  · simp [e0, e3, e4]
    refine call_num (l1Below_con k4 hn (by omega) _) fun z i5 h5 c5 _ z0 z1 k5 => ?_
    rw [if_neg (by omega)] at z1
    have hw2 : IntKind.i64.wrap (-1 - z) = -1 - z := wrap64 (by omega) (by omega)
    simp [e0, e3, e4, putA, m1, m2, m3, m4, hw2, hdec]
    refine hN _ _ _ _ hjx (sub_two _ _ _) ⟨by simp [upd, e0], by simp [upd], c5 + 1, l ++ [y, -1 - z], i5, h5, by simp [upd], by simp; omega, by simp [encI], k5, fun w hw => ?_⟩
    rcases List.mem_append.1 hw with hw | hw
    · exact hb w hw
    · simp at hw
      rcases hw with rfl | rfl <;> omega
end A
end Go.Proofs.Ytgiiipbpadgcgaa

/-
  Actors kept as0 objects: copies, marks, and what reads marks. No condition.
-/

namespace Go.Proofs.Ytgiiipbpadgcgaa
namespace A
set_option linter.unusedVariables false
set_option linter.unusedSimpArgs false
set_option maxRecDepth 100000

theorem TActor.freeI : ∀ (x : TActor) o, o ∈ x.inn → ∀ T, AvRows T o := fun x o ho => flat_free encI_flat _ _ o ho
theorem TActor.viewO {S : List AObj} (x : TActor) (h : ∀ o, o ∈ x.inn → o ∈ S) : ∀ (j : Nat) (a a' : AV), x.encO[j]? = some a → x.enc[j]? = some a' → View S a a' := fun j a a' h1 h2 => by
  match j, h1, h2 with
  | 0, h1, h2 => simp [TActor.encO] at h1; simp [TActor.enc] at h2; subst h1; subst h2; exact .refl _
  | 1, h1, h2 => simp [TActor.encO] at h1; simp [TActor.enc] at h2; subst h1; subst h2; exact .refl _
  | 2, h1, h2 => simp [TActor.encO] at h1; simp [TActor.enc] at h2; subst h1; subst h2; exact .refl _
  | 3, h1, h2 => simp [TActor.encO] at h1; simp [TActor.enc] at h2; subst h1; subst h2; exact view_flat h encI_flat.cells
  | 4, h1, h2 => simp [TActor.encO] at h1; simp [TActor.enc] at h2; subst h1; subst h2; exact .refl _
  | 5, h1, h2 => simp [TActor.encO] at h1; simp [TActor.enc] at h2; subst h1; subst h2; exact .refl _
  | 6, h1, h2 => simp [TActor.encO] at h1; simp [TActor.enc] at h2; subst h1; subst h2; exact .refl _
  | j + 7, h1, h2 => simp [TActor.encO] at h1
theorem view_actor {S : List AObj} {s : SL TActor} (hs : ∀ o, o ∈ s.wood 7 TActor.encO TActor.inn → o ∈ S) : View S (s.ref 7) (s.av 7 TActor.enc) :=
  view_wood hs (fun x => TActor.cells x) (fun _ => rfl) fun x h => TActor.viewO x h
theorem actor_from {c : Nat} {s : SL TActor} (ht : ∀ t, t ∈ tags (s.wood 7 TActor.encO TActor.inn) → c ≤ t) : From c (s.av 7 TActor.enc) := by
  cases s with
  | nil => exact from_nsl c
  | mk t l =>
    have ht' : ∀ u, u ∈ t :: tags (l.flatMap TActor.inn) → c ≤ u := ht
    refine from_slc (ht' t (List.mem_cons_self ..)) fun row hr a ha => ?_
    obtain ⟨x, hx, rfl⟩ := List.mem_map.1 hr
    simp [TActor.enc] at ha
    rcases ha with rfl | rfl | rfl | rfl | rfl | rfl | rfl
    · simp
    · simp
    · simp
    · refine flat_from encI_flat fun u hu => ht' u (List.mem_cons_of_mem _ ?_)
      obtain ⟨o, ho, rfl⟩ := of_mem_tags hu
      exact mem_tags (List.mem_flatMap.2 ⟨x, hx, ho⟩)
    · simp
    · simp
    · simp
end A
end Go.Proofs.Ytgiiipbpadgcgaa
