/-
  One access of an actor, of the program and of the reference. No condition.
-/
import Derived.Test.YtfcimcoanlgldaaAct3
namespace Go.Proofs.Ytfcimcoanlgldaa
namespace A
set_option linter.unusedVariables false
set_option linter.unusedSimpArgs false
set_option maxRecDepth 100000

theorem perm_line {l : List TLine} {i : Nat} {x : TLine} (h : l[i]? = some x) : (inns l).Perm (x.inn ++ (inns (l.take i) ++ inns (l.drop (i + 1)))) := by
  obtain ⟨hi, rfl⟩ := List.getElem?_eq_some_iff.1 h
  rw [inns_at hi]
  exact List.perm_append_comm_assoc ..
theorem perm_line' {l : List TLine} {i : Nat} (h : i < l.length) (x : TLine) : (inns (l.set i x)).Perm (x.inn ++ (inns (l.take i) ++ inns (l.drop (i + 1)))) := by
  rw [inns_set h]
  exact List.perm_append_comm_assoc ..
theorem innA_app (l m : List TActor) : innA (l ++ m) = innA l ++ innA m := List.flatMap_append ..
theorem innA_cons (x : TActor) (l : List TActor) : innA (x :: l) = x.inn ++ innA l := List.flatMap_cons ..
theorem innA_at {l : List TActor} {i : Nat} (h : i < l.length) : innA l = innA (l.take i) ++ (l[i].inn ++ innA (l.drop (i + 1))) := by
  rw [← innA_cons, ← List.drop_eq_getElem_cons h, ← innA_app, List.take_append_drop]
theorem innA_set {l : List TActor} {i : Nat} (h : i < l.length) (z : TActor) : innA (l.set i z) = innA (l.take i) ++ (z.inn ++ innA (l.drop (i + 1))) := by
  rw [List.set_eq_take_append_cons_drop, if_pos h, innA_app, innA_cons]
theorem perm_actor {l : List TActor} {i : Nat} {x : TActor} (h : l[i]? = some x) : (innA l).Perm (x.inn ++ (innA (l.take i) ++ innA (l.drop (i + 1)))) := by
  obtain ⟨hi, rfl⟩ := List.getElem?_eq_some_iff.1 h
  rw [innA_at hi]
  exact List.perm_append_comm_assoc ..
theorem perm_actor' {l : List TActor} {i : Nat} (h : i < l.length) (x : TActor) : (innA (l.set i x)).Perm (x.inn ++ (innA (l.take i) ++ innA (l.drop (i + 1)))) := by
  rw [innA_set h]
  exact List.perm_append_comm_assoc ..
theorem perm5 (X Rl A' Ra G : List AObj) : ((X ++ Rl) ++ ((A' ++ Ra) ++ G)).Perm (A' ++ (X ++ (Rl ++ (Ra ++ G)))) := by
  simp only [List.append_assoc]
  refine (List.Perm.append_left X (List.perm_append_comm_assoc ..)).trans ?_
  exact List.perm_append_comm_assoc ..
theorem perm6 (Rl Ra J G : List AObj) : (J ++ (Rl ++ (Ra ++ G))).Perm (Rl ++ (Ra ++ (J ++ G))) :=
  (List.perm_append_comm_assoc ..).trans (List.Perm.append_left _ (List.perm_append_comm_assoc ..))

/-- An access has been made. -/
def AccQ (tl ta j : Nat) (l : List TLine) (cs : List TActor) (G : List AObj) (r : AV) (O : List AObj) : Prop :=
  r = .tup [] ∧ ∃ (l' : List TLine) (cs' : List TActor) (T J : List AObj), (l'.map TLine.pl, cs'.map TActor.pa) = accAt j (l.map TLine.pl, cs.map TActor.pa) ∧ O = ⟨false, tl, 4, l'.map TLine.encO⟩ :: ⟨false, ta, 7, cs'.map TActor.encO⟩ :: T ∧
    T.Perm (inns l' ++ (innA cs' ++ (J ++ G))) ∧ (inns l ++ (innA cs ++ G)).length ≤ T.length ∧ ∀ o, o ∈ J → ∀ T, AvRows T o

theorem perm_in {l : List TLine} {cs : List TActor} {i j : Nat} {x : TLine} {a : TActor} (hx : l[i]? = some x) (ha : cs[j]? = some a) (G : List AObj) :
    (a.inn ++ (x.inn ++ ((inns (l.take i) ++ inns (l.drop (i + 1))) ++ ((innA (cs.take j) ++ innA (cs.drop (j + 1))) ++ G)))).Perm (inns l ++ (innA cs ++ G)) :=
  ((perm5 _ _ _ _ _).symm).trans ((perm_line hx).symm.append ((perm_actor ha).symm.append (.refl _)))
theorem turned_acc {tl ta i j : Nat} {l : List TLine} {cs : List TActor} {x : TLine} {a : TActor} {G O : List AObj} {r : AV} (hx : l[i]? = some x) (ha : cs[j]? = some a) (hL : a.Line = i)
    (h : Turned tl ta i j l cs x a ((j : Int) + 1) ((inns (l.take i) ++ inns (l.drop (i + 1))) ++ ((innA (cs.take j) ++ innA (cs.drop (j + 1))) ++ G)) r O) : AccQ tl ta j l cs G r O := by
  obtain ⟨h1, x', a', T, J, he, hO, hp, hl, hJ⟩ := h
  have hi : i < l.length := (List.getElem?_eq_some_iff.1 hx).1
  have hj : j < cs.length := (List.getElem?_eq_some_iff.1 ha).1
  refine ⟨h1, l.set i x', cs.set j a', T, J, ?_, hO, ?_, ?_, hJ⟩
  · have e1 : (cs.map TActor.pa)[j]? = some a.pa := by simp [ha]
    have e2 : (l.map TLine.pl)[(a.pa).Line.toNat]? = some x.pl := by simp [TActor.pa, hL, hx]
    unfold accAt
    simp only [e1, e2]
    rw [← he]
    simp [List.map_set, TActor.pa, hL]
  · refine hp.trans ?_
    refine List.Perm.trans ?_ ((perm5 x'.inn (inns (l.take i) ++ inns (l.drop (i + 1))) a'.inn (innA (cs.take j) ++ innA (cs.drop (j + 1))) (J ++ G)).symm.trans ((perm_line' hi x').symm.append ((perm_actor' hj a').symm.append (.refl _))))
    exact List.Perm.append_left _ (List.Perm.append_left _ (perm6 _ _ _ _))
  · rw [← (perm_in hx ha G).length_eq]; exact hl

/-- Nothing has changed. -/
theorem acc_same {tl ta j : Nat} {l : List TLine} {cs : List TActor} {G T J : List AObj} {v : AV} (hv : v = .tup []) (h : accAt j (l.map TLine.pl, cs.map TActor.pa) = (l.map TLine.pl, cs.map TActor.pa)) (hT : T.Perm (inns l ++ (innA cs ++ (J ++ G)))) (hlen : (inns l ++ (innA cs ++ G)).length ≤ T.length) (hJ : ∀ o, o ∈ J → ∀ T, AvRows T o) :
    AccQ tl ta j l cs G v (⟨false, tl, 4, l.map TLine.encO⟩ :: ⟨false, ta, 7, cs.map TActor.encO⟩ :: T) := ⟨hv, l, cs, T, J, h.symm, rfl, hT, hlen, hJ⟩

theorem tidy_inns (l : List TLine) : ∀ o, o ∈ inns l → ∀ T, AvRows T o := fun o ho => by
  obtain ⟨x, _, hx⟩ := List.mem_flatMap.1 ho
  exact tidyI x.Words o hx
theorem tidy_innA (l : List TActor) : ∀ o, o ∈ innA l → ∀ T, AvRows T o := fun o ho => by
  obtain ⟨x, _, hx⟩ := List.mem_flatMap.1 ho
  exact tidyI x.Words o hx
theorem tidy_L (t : Nat) (l : List TLine) : ∀ T, AvRows T ⟨false, t, 4, l.map TLine.encO⟩ := fun T => avRows_of fun row hr a ha => by
  obtain ⟨x, _, rfl⟩ := List.mem_map.1 hr
  exact TLine.freeO x a ha T
theorem TActor.freeO : ∀ (x : TActor) a, a ∈ x.encO → Free a := fun x a ha => by
  simp [TActor.encO] at ha
  rcases ha with rfl | rfl | rfl | rfl | rfl | rfl | rfl
  · exact free_bool _
  · exact free_int _ _
  · exact free_int _ _
  · exact free_ref _ _
  · exact free_int _ _
  · exact free_int _ _
  · exact free_int _ _
theorem tidy_A (t : Nat) (l : List TActor) : ∀ T, AvRows T ⟨false, t, 7, l.map TActor.encO⟩ := fun T => avRows_of fun row hr a ha => by
  obtain ⟨x, _, rfl⟩ := List.mem_map.1 hr
  exact TActor.freeO x a ha T
theorem accQ_tidy {tl ta j : Nat} {l : List TLine} {cs : List TActor} {G O : List AObj} {r : AV} (h : AccQ tl ta j l cs G r O) (hG : ∀ o, o ∈ G → ∀ T, AvRows T o) : Av [] r ∧ ∀ o, o ∈ O → AvRows [] o := by
  obtain ⟨rfl, l', cs', T, J, _, rfl, hp, _, hJ⟩ := h
  refine ⟨.tup (by simp), fun o ho => ?_⟩
  exact tidyC (tidy_L tl l') (tidyC (tidy_A ta cs') fun o ho => tidyA (tidy_inns l') (tidyA (tidy_innA cs') (tidyA hJ hG)) o (hp.mem_iff.1 ho)) o ho []

theorem fin_acc {tl ta i j c : Nat} {l : List TLine} {cs : List TActor} {x : TLine} {a : TActor} {G T0 : List AObj} {v : AV} {rows1 rows2 : List (List AV)} (hx : l[i]? = some x) (ha : cs[j]? = some a) (hL : a.Line = i) (x' : TLine) (a' : TActor)
    (he : (x'.pl, a'.pa) = acc ((j : Int) + 1) x.pl a.pa) (hX : x'.inn = x.inn) (hA : a'.inn = a.inn) (hT : inns l ++ (innA cs ++ G) = T0) (e1 : rows1 = (l.map TLine.encO).set i x'.encO) (e2 : rows2 = (cs.map TActor.encO).set j a'.encO) (hv : v = .tup []) :
    finW (fun r O _ => AccQ tl ta j l cs G r O) v (⟨false, tl, 4, rows1⟩ :: ⟨false, ta, 7, rows2⟩ :: T0) c := by
  subst hT; subst e1; subst e2
  have hp := perm_in hx ha G
  refine fin_all (turned_acc hx ha hL ⟨hv, x', a', _, [], he, by rw [List.map_set, List.map_set], ?_, ?_, tidy0⟩)
  · rw [hX, hA]; exact hp.symm
  · rw [hp.length_eq]; exact Nat.le_refl _
theorem fin_none {tl ta j c : Nat} {l : List TLine} {cs : List TActor} {a : TActor} {G : List AObj} {v : AV} {rows2 : List (List AV)} (ha : cs[j]? = some a)
    (he : accAt j (l.map TLine.pl, cs.map TActor.pa) = (l.map TLine.pl, cs.map TActor.pa)) (e2 : rows2 = (cs.map TActor.encO).set j a.encO) (hv : v = .tup []) :
    finW (fun r O _ => AccQ tl ta j l cs G r O) v (⟨false, tl, 4, l.map TLine.encO⟩ :: ⟨false, ta, 7, rows2⟩ :: (inns l ++ (innA cs ++ G))) c := by
  have eA : (cs.map TActor.encO).set j a.encO = cs.map TActor.encO := set_same (by simp [ha])
  subst e2
  rw [eA]
  exact fin_all (acc_same (J := []) hv he (.refl _) (Nat.le_refl _) tidy0)

theorem impl_access {tl ta j c n : Nat} {l : List TLine} {cs : List TActor} {G : List AObj} (hn : n ≤ 2097152) (hj : j < cs.length) (hg : Gd n (l.map TLine.pl, cs.map TActor.pa)) (hG : ∀ o, o ∈ G → ∀ T, AvRows T o) (hll : l.length ≤ 1048576) (hlc : cs.length ≤ 1048576) :
    Con Try.prog 45 [.ref 0 tl 4 l.length, .ref 1 ta 7 cs.length, .int .i64 j] (⟨false, tl, 4, l.map TLine.encO⟩ :: ⟨false, ta, 7, cs.map TActor.encO⟩ :: (inns l ++ (innA cs ++ G))) c fun r O _ => AccQ tl ta j l cs G r O := by
  have ha : cs[j]? = some cs[j] := List.getElem?_eq_getElem hj
  generalize cs[j] = a at ha
  have ga : GdA n a.pa := hg.a _ (List.mem_map.2 ⟨a, List.mem_of_getElem? ha, rfl⟩)
  have eA : (cs.map TActor.encO).set j a.encO = cs.map TActor.encO := set_same (by simp [ha])
  have e1 : (cs.map TActor.pa)[j]? = some a.pa := by simp [ha]
  have g0 := ga.l0
  have g0' : 0 ≤ a.Line := g0
  obtain ⟨i, hL⟩ := Int.eq_ofNat_of_zero_le g0'
  rw [← eA]
  refine con_of c45 (by simp [F45]) ?_
  unfold F45
  have hw1 : IntKind.i64.wrap ((j : Int) + 1) = j + 1 := wrap64 (by omega) (by omega)
  by_cases hil : i < l.length
  · have hx : l[i]? = some l[i] := List.getElem?_eq_getElem hil
    generalize l[i] = x at hx
    have hil' : ¬ l.length ≤ i := by omega
    have gx : GdL n x.pl := hg.l _ (List.mem_map.2 ⟨x, List.mem_of_getElem? hx, rfl⟩)
    have gs0 : 0 ≤ x.Seq := gx.s0
    have gs1 : x.Seq ≤ 1000000000000 + n := gx.s1
    have hw3 : IntKind.i64.wrap (x.Seq + 1) = x.Seq + 1 := wrap64 (by omega) (by omega)
    have eL : (l.map TLine.encO).set i x.encO = l.map TLine.encO := set_same (by simp [hx])
    rw [← eL]
    by_cases hs0 : a.State = 0
    · have hA0 : a.At = 0 := ga.r hs0
      generalize hT : inns l ++ (innA cs ++ G) = T0
      by_cases hp : x.Seq.tmod 2 = 1
      · by_cases hw : a.Writer = true
        · simp [TLine.encO, TActor.encO, hj, hil, hil', hL, hs0, hp, hw, putA]
          exact fin_acc hx ha hL x ⟨true, i, a.Version, a.Words, 0, a.At, a.Seq⟩ (by simp [acc, TLine.pl, TActor.pa, hs0, hp, hw, hL]) rfl rfl hT rfl rfl rfl
        · have hw : a.Writer = false := by simpa using hw
          simp [TLine.encO, TActor.encO, hj, hil, hil', hL, hs0, hp, hw, putA]
          exact fin_acc hx ha hL x ⟨false, i, a.Version, a.Words, 3, a.At, a.Seq⟩ (by simp [acc, TLine.pl, TActor.pa, hs0, hp, hw, hL]) rfl rfl hT rfl rfl rfl
      · by_cases hw : a.Writer = true
        · simp [TLine.encO, TActor.encO, hj, hil, hil', hL, hs0, hp, hw, putA, hw1, hw3]
          exact fin_acc hx ha hL ⟨x.Seq + 1, j + 1, x.Version, x.Words⟩ ⟨true, i, a.Version, a.Words, 1, 0, a.Seq⟩ (by simp [acc, TLine.pl, TActor.pa, hs0, hp, hw, hL]) rfl rfl hT rfl rfl rfl
        · have hw : a.Writer = false := by simpa using hw
          simp [TLine.encO, TActor.encO, hj, hil, hil', hL, hs0, hp, hw, putA]
          exact fin_acc hx ha hL x ⟨false, i, a.Version, a.Words, 1, 0, x.Seq⟩ (by simp [acc, TLine.pl, TActor.pa, hs0, hp, hw, hL]) rfl rfl hT rfl rfl rfl
    by_cases hs1 : a.State = 1
    · by_cases hw : a.Writer = true
      · have key := fun c => con_in (impl_write (tl := tl) (ta := ta) (c := c) (R := (inns (l.take i) ++ inns (l.drop (i + 1))) ++ ((innA (cs.take j) ++ innA (cs.drop (j + 1))) ++ G)) hn hx ha gx ga hs1 hw ((j : Int) + 1)) (Views.refl _ _) (.cons _ (.cons _ (perm_in hx ha G))) (.refl _ _)
        rw [← eL, ← eA] at key
        simp only [TLine.encO, TActor.encO, hL, hs1, hw] at key
        simp [TLine.encO, TActor.encO, hj, hil, hil', hL, hs0, hs1, hw, putA]
        refine call_con (key _) fun r H' c' hc hq ho hd => ?_
        have hq := turned_acc hx ha hL hq
        obtain ⟨t1, t2⟩ := accQ_tidy hq hG
        refine ⟨t1, t2, ?_⟩
        obtain ⟨_, q2⟩ := hq
        simp
        exact fin_all ⟨rfl, q2⟩
      · have hw : a.Writer = false := by simpa using hw
        have key := fun c => con_in (impl_read (tl := tl) (ta := ta) (c := c) (R := (inns (l.take i) ++ inns (l.drop (i + 1))) ++ ((innA (cs.take j) ++ innA (cs.drop (j + 1))) ++ G)) hn hx ha gx ga hs1 hw ((j : Int) + 1)) (Views.refl _ _) (.cons _ (.cons _ (perm_in hx ha G))) (.refl _ _)
        rw [← eL, ← eA] at key
        simp only [TLine.encO, TActor.encO, hL, hs1, hw] at key
        simp [TLine.encO, TActor.encO, hj, hil, hil', hL, hs0, hs1, hw, putA]
        refine call_con (key _) fun r H' c' hc hq ho hd => ?_
        have hq := turned_acc hx ha hL hq
        obtain ⟨t1, t2⟩ := accQ_tidy hq hG
        refine ⟨t1, t2, ?_⟩
        obtain ⟨_, q2⟩ := hq
        simp
        exact fin_all ⟨rfl, q2⟩
    · generalize hT : inns l ++ (innA cs ++ G) = T0
      simp [TLine.encO, TActor.encO, hj, hil, hil', hL, hs0, hs1, putA]
      exact fin_acc hx ha hL x ⟨a.Writer, i, a.Version, a.Words, a.State, a.At, a.Seq⟩ (by simp [acc, TLine.pl, TActor.pa, hs0, hs1, hL]) rfl rfl hT rfl rfl rfl
  · have hil' : l.length ≤ i := by omega
    have hno : accAt j (l.map TLine.pl, cs.map TActor.pa) = (l.map TLine.pl, cs.map TActor.pa) := by
      unfold accAt
      have e2 : (l.map TLine.pl)[(a.pa).Line.toNat]? = none := by simp [TActor.pa, hL]; omega
      simp only [e1, e2]
    by_cases hs0 : a.State = 0
    · simp [TLine.encO, TActor.encO, hj, hil, hil', hL, hs0, putA]
      exact fin_none ha hno (by simp [TActor.encO, hL, hs0]) rfl
    by_cases hs1 : a.State = 1
    · simp [TLine.encO, TActor.encO, hj, hil, hil', hL, hs0, hs1, putA]
      exact fin_none ha hno (by simp [TActor.encO, hL, hs1]) rfl
    · simp [TLine.encO, TActor.encO, hj, hil, hil', hL, hs0, hs1, putA]
      exact fin_none ha hno (by simp [TActor.encO, hL]) rfl
end A
end Go.Proofs.Ytfcimcoanlgldaa
