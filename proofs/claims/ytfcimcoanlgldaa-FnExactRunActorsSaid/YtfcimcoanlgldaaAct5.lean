/-
  One access of an actor, of the reference. No condition.
-/
import Derived.Test.YtfcimcoanlgldaaAct4
namespace Go.Proofs.Ytfcimcoanlgldaa
namespace A
set_option linter.unusedVariables false
set_option linter.unusedSimpArgs false
set_option maxRecDepth 100000

/-- What stands behind the call that is handed the actor's copy. -/
def MidQ (tl ta tv i : Nat) (n0 : Nat) (l : List TLine) (cs : List TActor) (x : TLine) (a : TActor) (me : Int) (R : List AObj) (r : AV) (O : List AObj) : Prop :=
  r = .tup [] ∧ ∃ (x' : TLine) (a' : TActor) (T1 T2 J : List AObj), (x'.pl, a'.pa) = acc me x.pl a.pa ∧ T1.length = n0 ∧ O = ⟨false, tl, 4, (l.set i x').map TLine.encO⟩ :: ⟨false, ta, 7, cs.map TActor.encO⟩ :: (T1 ++ ⟨false, tv, 7, [a'.encO]⟩ :: T2) ∧
    (T1 ++ T2).Perm (a'.inn ++ (x'.inn ++ (J ++ R))) ∧ ∀ o, o ∈ J → ∀ T, AvRows T o
theorem turned_mid {tl ta tv i : Nat} {l : List TLine} {cs : List TActor} {x : TLine} {a : TActor} {me : Int} {R O : List AObj} {r : AV} (h : Turned tl tv i 0 l [a] x a me (⟨false, ta, 7, cs.map TActor.encO⟩ :: R) r O) :
    ∃ Hs H2, Hs.Sublist O ∧ H2.Perm Hs ∧ MidQ tl ta tv i (a.inn ++ (x.inn ++ R)).length l cs x a me R r H2 := by
  obtain ⟨h1, x', a', T, J, he, hO, hp, hl, hJ⟩ := h
  have hp2 : T.Perm (⟨false, ta, 7, cs.map TActor.encO⟩ :: (a'.inn ++ (x'.inn ++ (J ++ R)))) := by
    refine hp.trans ?_
    refine List.Perm.trans ?_ List.perm_middle
    refine List.Perm.append_left _ ?_
    refine List.Perm.trans ?_ List.perm_middle
    refine List.Perm.append_left _ ?_
    exact List.perm_middle
  have hlen := hp2.length_eq
  generalize hZ : a'.inn ++ (x'.inn ++ (J ++ R)) = Z at hp2 hlen
  have hn : (a.inn ++ (x.inn ++ R)).length ≤ Z.length := by simp at hl hlen ⊢; omega
  refine ⟨O, _, List.Sublist.refl _, ?_, h1, x', a', Z.take (a.inn ++ (x.inn ++ R)).length, Z.drop (a.inn ++ (x.inn ++ R)).length, J, he, by rw [List.length_take]; omega, rfl, by rw [List.take_append_drop, hZ], hJ⟩
  subst hO
  refine List.Perm.cons _ ?_
  have e : (([a].set 0 a').map TActor.encO) = [a'.encO] := rfl
  rw [e]
  refine ((List.Perm.cons _ (List.perm_middle.trans (List.Perm.cons _ (by rw [List.take_append_drop])))).trans (List.Perm.swap _ _ _)).trans ?_
  exact List.Perm.cons _ hp2.symm
theorem mid_acc {tl ta i j : Nat} {l : List TLine} {cs : List TActor} {x : TLine} {a a' : TActor} {x' : TLine} {G T1 T2 J : List AObj} {tv : Nat} {v : AV} (hv : v = .tup []) (hx : l[i]? = some x) (ha : cs[j]? = some a) (hL : a.Line = i)
    (he : (x'.pl, a'.pa) = acc ((j : Int) + 1) x.pl a.pa) (hn : T1.length = (inns l ++ (innA cs ++ G)).length)
    (hp : (T1 ++ T2).Perm (a'.inn ++ (x'.inn ++ (J ++ ((inns (l.take i) ++ inns (l.drop (i + 1))) ++ ((innA (cs.take j) ++ innA (cs.drop (j + 1))) ++ G)))))) (hJ : ∀ o, o ∈ J → ∀ T, AvRows T o) :
    AccQ tl ta j l cs G v (⟨false, tl, 4, (l.set i x').map TLine.encO⟩ :: ⟨false, ta, 7, (cs.set j a').map TActor.encO⟩ :: (T1 ++ ⟨false, tv, 7, [a'.encO]⟩ :: T2)) := by
  refine turned_acc hx ha hL ⟨hv, x', a', _, ⟨false, tv, 7, [a'.encO]⟩ :: J, he, rfl, ?_, ?_, tidyC (tidy_A tv [a']) hJ⟩
  · refine List.perm_middle.trans ((List.Perm.cons _ hp).trans ?_)
    refine List.Perm.trans List.perm_middle.symm ?_
    refine List.Perm.append_left _ ?_
    exact List.perm_middle.symm
  · rw [(perm_in hx ha G).length_eq]; simp at hn ⊢; omega

theorem perm_mid_in (A' V : AObj) {P Q R T0 : List AObj} (h : (P ++ (Q ++ R)).Perm T0) : (V :: (P ++ (Q ++ (A' :: R)))).Perm (A' :: (T0 ++ [V])) := by
  have h1 : (P ++ (Q ++ (A' :: R))).Perm (A' :: (P ++ (Q ++ R))) := (List.Perm.append_left _ List.perm_middle).trans List.perm_middle
  refine ((List.Perm.cons _ h1).trans (List.Perm.swap _ _ _)).trans (List.Perm.cons _ ?_)
  exact ((List.Perm.cons _ h).trans (List.perm_append_singleton _ _).symm)

theorem spec_access {tl ta j c n : Nat} {l : List TLine} {cs : List TActor} {G : List AObj} (hn : n ≤ 2097152) (hj : j < cs.length) (hg : Gd n (l.map TLine.pl, cs.map TActor.pa)) (hG : ∀ o, o ∈ G → ∀ T, AvRows T o) (hll : l.length ≤ 1048576) (hlc : cs.length ≤ 1048576) :
    Con Try.prog 36 [.ref 0 tl 4 l.length, .ref 1 ta 7 cs.length, .int .i64 j] (⟨false, tl, 4, l.map TLine.encO⟩ :: ⟨false, ta, 7, cs.map TActor.encO⟩ :: (inns l ++ (innA cs ++ G))) c fun r O _ => AccQ tl ta j l cs G r O := by
  have ha : cs[j]? = some cs[j] := List.getElem?_eq_getElem hj
  generalize cs[j] = a at ha
  have ga : GdA n a.pa := hg.a _ (List.mem_map.2 ⟨a, List.mem_of_getElem? ha, rfl⟩)
  have eA : (cs.map TActor.encO).set j a.encO = cs.map TActor.encO := set_same (by simp [ha])
  have e1 : (cs.map TActor.pa)[j]? = some a.pa := by simp [ha]
  have g0 := ga.l0
  have g0' : 0 ≤ a.Line := g0
  obtain ⟨i, hL⟩ := Int.eq_ofNat_of_zero_le g0'
  rw [← eA]
  have hneg : ¬ (i : Int) < 0 := by omega
  have hw1 : IntKind.i64.wrap ((j : Int) + 1) = j + 1 := wrap64 (by omega) (by omega)
  refine con_of c36 (by simp [F36]) ?_
  unfold F36
  by_cases hil : i < l.length
  · have hx : l[i]? = some l[i] := List.getElem?_eq_getElem hil
    generalize l[i] = x at hx
    have hil' : ¬ l.length ≤ i := by omega
    have gx : GdL n x.pl := hg.l _ (List.mem_map.2 ⟨x, List.mem_of_getElem? hx, rfl⟩)
    have hperm := perm_in hx ha G
    by_cases hw : a.Writer = true
    · skip
      generalize hT : inns l ++ (innA cs ++ G) = T0 at hperm
      have key := fun c1 => con_perm (con_in (spec_write (tl := tl) (ta := c) (c := c1) (cs := [a]) (j := 0) (R := ⟨false, ta, 7, cs.map TActor.encO⟩ :: ((inns (l.take i) ++ inns (l.drop (i + 1))) ++ ((innA (cs.take j) ++ innA (cs.drop (j + 1))) ++ G))) hn hx rfl hL gx ga hw ((j : Int) + 1)) (.cons (.refl _) (.cons .namep (.cons (.refl _) .nil)) : Views [] [.ref 0 tl 4 l.length, .ptr (T0.length + 1 + 1) c 7 0 0, .int .i64 ((j : Int) + 1)] _) (.cons _ (perm_mid_in ⟨false, ta, 7, cs.map TActor.encO⟩ ⟨false, c, 7, [a].map TActor.encO⟩ hperm)) (.refl _ _)) (fun r H' c' h => turned_mid h)
      rw [← eA] at key
      simp only [List.map_cons, List.map_nil, TActor.encO, hL, hw] at key
      simp [TActor.encO, hj, hil, hil', hL, hw, putA, hneg, hw1]
      refine call_con (key _) fun r H' c' hc hq ho hd => ?_
      obtain ⟨rfl, x', a', T1, T2, J, he, hT1, hO, hp, hJ⟩ := hq
      rw [hperm.length_eq] at hT1
      subst hO
      refine ⟨.tup (by simp), fun o ho => ?_, ?_⟩
      · refine tidyC (tidy_L tl _) (tidyC (tidy_A ta cs) fun o ho => ?_) o ho []
        have ho' : o ∈ ⟨false, c, 7, [a'.encO]⟩ :: (T1 ++ T2) := (List.perm_middle (a := (⟨false, c, 7, [a'.encO]⟩ : AObj)) (l₁ := T1) (l₂ := T2)).mem_iff.1 ho
        refine tidyC (tidy_A c [a']) (fun o ho => ?_) o ho'
        exact tidyA (tidyI a'.Words) (tidyA (tidyI x'.Words) (tidyA hJ (tidyA (tidyA (tidy_inns _) (tidy_inns _)) (tidyA (tidyA (tidy_innA _) (tidy_innA _)) hG)))) o (hp.mem_iff.1 ho)
      · rw [← hT1, ← eA]
        simp [hj, hL, hw, putA, TActor.encO]
        have := mid_acc (tl := tl) (ta := ta) (tv := c) (v := oneOf []) rfl hx ha hL he (by rw [hT]; exact hT1) hp hJ
        rw [List.map_set, List.map_set] at this
        exact fin_all this
    · have hw : a.Writer = false := by simpa using hw
      generalize hT : inns l ++ (innA cs ++ G) = T0 at hperm
      have key := fun c1 => con_perm (con_in (spec_read (tl := tl) (ta := c) (c := c1) (cs := [a]) (j := 0) (R := ⟨false, ta, 7, cs.map TActor.encO⟩ :: ((inns (l.take i) ++ inns (l.drop (i + 1))) ++ ((innA (cs.take j) ++ innA (cs.drop (j + 1))) ++ G))) hn hx rfl hL gx ga hw ((j : Int) + 1)) (.cons (.refl _) (.cons .namep .nil) : Views [] [.ref 0 tl 4 l.length, .ptr (T0.length + 1 + 1) c 7 0 0] _) (.cons _ (perm_mid_in ⟨false, ta, 7, cs.map TActor.encO⟩ ⟨false, c, 7, [a].map TActor.encO⟩ hperm)) (.refl _ _)) (fun r H' c' h => turned_mid h)
      rw [← eA] at key
      simp only [List.map_cons, List.map_nil, TActor.encO, hL, hw] at key
      simp [TActor.encO, hj, hil, hil', hL, hw, putA, hneg, hw1]
      refine call_con (key _) fun r H' c' hc hq ho hd => ?_
      obtain ⟨rfl, x', a', T1, T2, J, he, hT1, hO, hp, hJ⟩ := hq
      rw [hperm.length_eq] at hT1
      subst hO
      refine ⟨.tup (by simp), fun o ho => ?_, ?_⟩
      · refine tidyC (tidy_L tl _) (tidyC (tidy_A ta cs) fun o ho => ?_) o ho []
        have ho' : o ∈ ⟨false, c, 7, [a'.encO]⟩ :: (T1 ++ T2) := (List.perm_middle (a := (⟨false, c, 7, [a'.encO]⟩ : AObj)) (l₁ := T1) (l₂ := T2)).mem_iff.1 ho
        refine tidyC (tidy_A c [a']) (fun o ho => ?_) o ho'
        exact tidyA (tidyI a'.Words) (tidyA (tidyI x'.Words) (tidyA hJ (tidyA (tidyA (tidy_inns _) (tidy_inns _)) (tidyA (tidyA (tidy_innA _) (tidy_innA _)) hG)))) o (hp.mem_iff.1 ho)
      · rw [← hT1, ← eA]
        simp [hj, hL, hw, putA, TActor.encO]
        have := mid_acc (tl := tl) (ta := ta) (tv := c) (v := oneOf []) rfl hx ha hL he (by rw [hT]; exact hT1) hp hJ
        rw [List.map_set, List.map_set] at this
        exact fin_all this
  · have hil' : l.length ≤ i := by omega
    have hno : accAt j (l.map TLine.pl, cs.map TActor.pa) = (l.map TLine.pl, cs.map TActor.pa) := by
      unfold accAt
      have e2 : (l.map TLine.pl)[(a.pa).Line.toNat]? = none := by simp [TActor.pa, hL]; omega
      simp only [e1, e2]
    generalize hT : inns l ++ (innA cs ++ G) = T0
    simp [TActor.encO, hj, hil, hil', hL, putA, hneg]
    have := acc_same (tl := tl) (ta := ta) (j := j) (v := oneOf []) (T := T0 ++ [⟨false, c, 7, [a.encO]⟩]) (J := [⟨false, c, 7, [a.encO]⟩]) rfl hno (by
      subst hT
      simp only [List.append_assoc]
      exact List.Perm.append_left _ (List.Perm.append_left _ List.perm_append_comm)) (by subst hT; simp) (tidy1 (tidy_A c [a]))
    rw [← eA] at this
    simp only [TActor.encO, hL] at this
    exact fin_all this
end A
end Go.Proofs.Ytfcimcoanlgldaa
