/-
  RunActors of the program. No condition.
-/
import Derived.Test.YtfcimcoanlgldaaAct7
namespace Go.Proofs.Ytfcimcoanlgldaa
namespace A
set_option linter.unusedVariables false
set_option linter.unusedSimpArgs false
set_option maxRecDepth 100000

def cpA (ys l : List TActor) (i : Nat) : List (List AV) := ys.map TActor.encO ++ (l.drop i).map TActor.enc
theorem cpA_len {ys l : List TActor} {i : Nat} (h : ys.length = i) (hi : i ≤ l.length) : (cpA ys l i).length = l.length := by simp [cpA, h]; omega
theorem cpA_get {ys l : List TActor} {i : Nat} (h : ys.length = i) (hi : i < l.length) : (cpA ys l i)[i]? = some l[i].enc := by
  unfold cpA
  rw [List.getElem?_append_right (by simp; omega), List.length_map, h, Nat.sub_self, List.drop_eq_getElem_cons hi]; rfl
theorem cpA_set {ys l : List TActor} {i : Nat} (h : ys.length = i) (hi : i < l.length) (y : TActor) : (cpA ys l i).set i y.encO = cpA (ys ++ [y]) l (i + 1) := by
  unfold cpA
  rw [List.set_append_right _ _ (by simp; omega), List.length_map, h, Nat.sub_self, List.drop_eq_getElem_cons hi, List.map_cons, List.set_cons_zero]
  simp
theorem cpA_zero (l : List TActor) : cpA [] l 0 = l.map TActor.enc := by simp [cpA]
theorem cpA_all {ys l : List TActor} : cpA ys l l.length = ys.map TActor.encO := by simp [cpA]
theorem av_actor (x : TActor) : ∀ a, a ∈ x.enc → Av [] a := fun a ha => by
  simp [TActor.enc] at ha
  rcases ha with rfl | rfl | rfl | rfl | rfl | rfl | rfl
  · exact .bool
  · exact .int
  · exact .int
  · exact av_words _
  · exact .int
  · exact .int
  · exact .int

theorem tidyA1 {X : AObj} {T : List Nat} (h : AvRows T X) : ∀ o, o ∈ [X] → AvRows T o := fun o ho => by cases List.mem_singleton.1 ho; exact h
/-- No lines at all. -/
def RunS0 (ta na : Nat) (p : List PL × List PA) (H : List AObj) : Prop :=
  ∃ (cs : List TActor) (T G : List AObj), cs.length = na ∧ H = ⟨false, ta, 7, cs.map TActor.encO⟩ :: T ∧ T.Perm (innA cs ++ G) ∧ (∀ o, o ∈ G → ∀ T, AvRows T o) ∧ ([], cs.map TActor.pa) = p
theorem con_run3 {f : Nat} {args : List AV} {p : List PL × List PA} {c : Nat} (key : Con Try.prog f args [] c fun r O _ => (∃ tl ta nl na, r = .tup [.ref 0 tl 4 nl, .ref 1 ta 7 na] ∧ RunS tl ta nl na p O) ∨ (∃ ta na, r = .tup [.nsl, .ref 0 ta 7 na] ∧ RunS0 ta na p O) ∨ RunQ p r O) : Con Try.prog f args [] c fun r O _ => RunQ p r O :=
  Con.fin (con_perm (Q' := fun r O _ => ∃ r', View [] r r' ∧ RunQ p r' O) key fun r O c' h => by
    rcases h with ⟨tl, ta, nl, na, h1, h2⟩ | ⟨ta, na, h1, cs, T, G, h2, h3, h4, h5, h6⟩ | h
    · exact runS_run h1 h2
    · obtain ⟨Ts, hTp, hTs⟩ := List.exists_perm_sublist (List.sublist_append_left (innA cs) G) h4.symm
      refine ⟨⟨false, ta, 7, cs.map TActor.encO⟩ :: Ts, (SL.mk ta cs).wood 7 TActor.encO TActor.inn, ?_, ?_, _, .refl _, .nil, .mk ta cs, ?_, rfl, h6⟩
      · subst h3; exact hTs.cons_cons _
      · rw [wood_innA]; exact List.Perm.cons _ hTp.symm
      · subst h1; subst h2; rfl
    · exact ⟨O, O, List.Sublist.refl _, List.Perm.refl _, r, .refl _, h⟩) fun r O c' _ ⟨r', hv, hq⟩ _ _ => fin_sub (List.Sublist.refl _) hv hq
/-- A call that is handed nothing of the state. -/
theorem call_newS {P : Program} {f c : Nat} {l l' : List AV} {H : List AObj} {Q K : AV → List AObj → Nat → Prop} (hf : Con P f l' [] c Q) (hv : Views [] l l')
    (k : ∀ r O c', c ≤ c' → Q r O c' → ∃ r', View [] r r' ∧ Av [] r' ∧ (∀ o, o ∈ O → AvRows [] o) ∧ K r' (H ++ O) c') : CallW P f l H c K := by
  intro hn hlt
  obtain ⟨h1, h2⟩ := hv.spec
  refine ⟨[], [], l', Q, List.nil_sublist _, by simp, by simp [tags], h1, h2, hf, fun r O c' hc hq ho hd => ?_⟩
  have hfresh : ∀ t, t ∈ tags O → c ≤ t := fun t ht => by
    rcases Nat.lt_or_ge t c with h | h
    · have := ho t h ht; simp [tags] at this
    · exact h
  obtain ⟨r', k1, k2, k3, k4⟩ := k r O c' hc hq
  refine ⟨_, r', fun o h => ?_, ?_, k1, k2, fun o _ h => k3 o h, k4⟩
  · rcases List.mem_append.1 h with h | h
    · exact .inr ⟨h, by simp [tags]⟩
    · exact .inl h
  · have : tags (H ++ O) = tags H ++ tags O := by simp [tags]
    rw [this]
    refine List.nodup_append.2 ⟨hn, hd, fun x hx y hy hxy => ?_⟩
    subst hxy
    exact absurd (hlt x hx) (Nat.not_lt.2 (hfresh x hy))


theorem impl_access0 {ta j c n : Nat} {cs : List TActor} {T : List AObj} (hj : j < cs.length) (hg : ∀ a, a ∈ cs.map TActor.pa → GdA n a) :
    Con Try.prog 45 [.nsl, .ref 0 ta 7 cs.length, .int .i64 j] (⟨false, ta, 7, cs.map TActor.encO⟩ :: T) c fun r O _ => r = .tup [] ∧ O = ⟨false, ta, 7, cs.map TActor.encO⟩ :: T := by
  have ha : cs[j]? = some cs[j] := List.getElem?_eq_getElem hj
  generalize cs[j] = a at ha
  have ga : GdA n a.pa := hg _ (List.mem_map.2 ⟨a, List.mem_of_getElem? ha, rfl⟩)
  have eA : (cs.map TActor.encO).set j a.encO = cs.map TActor.encO := set_same (by simp [ha])
  have g0' : 0 ≤ a.Line := ga.l0
  obtain ⟨i, hL⟩ := Int.eq_ofNat_of_zero_le g0'
  rw [← eA]
  refine con_of c45 (by simp [F45]) ?_
  unfold F45
  by_cases hs0 : a.State = 0
  · simp [TActor.encO, hj, hL, hs0, putA]
    exact fin_all ⟨rfl, rfl⟩
  by_cases hs1 : a.State = 1
  · simp [TActor.encO, hj, hL, hs0, hs1, putA]
    exact fin_all ⟨rfl, rfl⟩
  · simp [TActor.encO, hj, hL, hs0, hs1, putA]
    exact fin_all ⟨rfl, rfl⟩

theorem impl_run {s : SL TLine} {d : SL TActor} {sch : SL Int} (hn : s.list.length ≤ 1048576) (hz : ∀ x, x ∈ s.list → x.Words.list.length ≤ 1048576) (hd : d.list.length ≤ 1048576) (hw : ∀ x, x ∈ d.list → x.Words.list.length ≤ 1048576) (hs : sch.list.length ≤ 1048576) (hi : ∀ k, k ∈ sch.list → -9223372036854775808 ≤ k ∧ k ≤ 9223372036854775807)
    (c : Nat) :
    Con Try.prog 12 [s.av 4 TLine.enc, d.av 7 TActor.enc, sch.av 1 encI] [] c fun r O _ => RunQ (runAll s.list d.list sch.list) r O := by
  refine con_run3 ?_
  refine con_of c12 (by simp [F12]) ?_
  unfold F12
  simp
  refine call_new (impl_copyO hn hz _) (Views.refl _ _) fun r O c1 hc ⟨b, hr, hO, hb⟩ _ _ => ?_
  subst hr
  by_cases hna : 0 < d.list.length
  rotate_left
  · -- no actors
    subst hO
    have hd0 : d.list = [] := List.eq_nil_of_length_eq_zero (by omega)
    refine ⟨_, .refl _, free_ref _ _ _, fun o ho => free_wood TLine.freeO TLine.freeI _ o ho _, ?_⟩
    simp
    refine call_newS (clone_con (b := 72) (z := [.bool false, .int .i64 0, .int .i64 0, .nsl, .int .i64 0, .int .i64 0, .int .i64 0]) c41 (by omega) (by unfold mx; omega) _) (Views.refl _ _) fun r O c2 hc2 ⟨x, hr, hO, hx⟩ => ?_
    subst hr; subst hO
    have hx0 : x.list = [] := by rw [hx, hd0]
    refine ⟨_, .refl _, free_ref _ _ _, fun o ho => ?_, ?_⟩
    · cases x with
      | nil => cases ho
      | mk t m =>
        simp at hx0; subst hx0
        rw [flat_wood] at ho; simp at ho; subst ho
        exact avRows_of fun row hr => by cases hr
    have hfin : ∀ c', finW (fun r O _ => (∃ tl ta nl na, r = .tup [.ref 0 tl 4 nl, .ref 1 ta 7 na] ∧ RunS tl ta nl na (runAll s.list d.list sch.list) O) ∨ (∃ ta na, r = .tup [.nsl, .ref 0 ta 7 na] ∧ RunS0 ta na (runAll s.list d.list sch.list) O) ∨ RunQ (runAll s.list d.list sch.list) r O) (.tup [b.ref 4, x.ref 7]) (b.wood 4 TLine.encO TLine.inn ++ x.wood 7 TActor.enc noInn) c' := fun c' => by
      refine fin_all (.inr (.inr ⟨b, x, rfl, ?_, ?_⟩))
      · congr 1
        cases x with
        | nil => rfl
        | mk t m => simp at hx0; subst hx0; rfl
      · rw [runAll, hd0, hx0, pl_of_con hb]; simp
    generalize b.wood 4 TLine.encO TLine.inn ++ x.wood 7 TActor.enc noInn = H0 at hfin
    have hdl : d.list.length = 0 := by omega
    simp
    refine loop_drop 0 (fun i e H c' => e 0 = s.av 4 TLine.enc ∧ e 1 = d.av 7 TActor.enc ∧ e 8 = b.ref 4 ∧ e 9 = x.ref 7 ∧ e 20 = .int .i64 0 ∧ e 21 = .int .i64 0 ∧ H = H0) ⟨rfl, rfl, rfl, rfl, by simp [upd, hdl], rfl, rfl⟩ ?_
    intro i e H c' hii ⟨e0, e1, e8, e9, e20, e21, hH⟩ N hN
    subst hH
    simp [e0, e1, e8, e9, e20, e21]
    refine call_fn (impl_areLines (by unfold mx; omega)) (Views.refl _ _) .bool fun _ _ => ?_
    cases h1 : areLines s.list
    · simp [e0, e1, e8, e9]
      exact hfin _
    simp [e0, e1, e8, e9]
    refine call_fn (impl_areActors (by unfold mx; omega)) (Views.refl _ _) .bool fun c3 _ => ?_
    cases h2 : areActors d.list
    · simp [e0, e1, e8, e9]
      exact hfin _
    · simp [e0, e1, e8, e9, hdl]
      exact hfin _
  rcases b with _ | ⟨tl, l⟩
  · have hs0 : s.list = [] := List.eq_nil_of_length_eq_zero (by have := congrArg List.length hb; simp at this; omega)
    have hO' : O = [] := hO
    subst hO'
    refine ⟨_, .refl _, free_ref _ _ _, by simp, ?_⟩
    simp [ref_nil]
    refine call_newS (clone_con (b := 72) (z := [.bool false, .int .i64 0, .int .i64 0, .nsl, .int .i64 0, .int .i64 0, .int .i64 0]) c41 (by omega) (by unfold mx; omega) _) (Views.refl _ _) fun r O c2 hc2 ⟨x, hr, hO, hx⟩ => ?_
    subst hr
    obtain ⟨ta, rfl⟩ : ∃ ta, x = .mk ta d.list := by
      cases x with
      | nil => simp at hx; rw [hx] at hna; simp at hna
      | mk t m => simp only [SL.list_mk] at hx; exact ⟨t, by rw [hx]⟩
    rw [flat_wood] at hO
    subst hO
    refine ⟨.ref 0 ta 7 d.list.length, .refl _, .ref, tidyA1 ?_, ?_⟩
    · exact avRows_of fun row hr a ha => by
        obtain ⟨y, _, rfl⟩ := List.mem_map.1 hr
        exact av_actor y a ha
    simp
    refine loop_drop d.list.length (fun i e H c' => e 0 = s.av 4 TLine.enc ∧ e 1 = d.av 7 TActor.enc ∧ e 2 = sch.av 1 encI ∧ e 8 = .nsl ∧ e 9 = .ref 0 ta 7 d.list.length ∧ e 19 = d.av 7 TActor.enc ∧ e 20 = .int .i64 d.list.length ∧ e 21 = .int .i64 i ∧
      ∃ ys : List TActor, ys.length = i ∧ ys.map TActor.pa = (d.list.take i).map TActor.pa ∧ H = ⟨false, ta, 7, cpA ys d.list i⟩ :: innA ys) ⟨rfl, rfl, rfl, rfl, rfl, rfl, rfl, rfl, [], rfl, rfl, by rw [cpA_zero]; simp [innA]⟩ ?_
    intro i e H c' hii ⟨e0, e1, e2, e8, e9, e19, e20, e21, ys, hy, hcon, hH⟩ N hN
    subst hH
    simp [e0, e1, e2, e8, e9, e19, e20, e21]
    refine ⟨fun h => ?_, fun h => ?_⟩
    · have hlen := cpA_len hy hii
      have hget := cpA_get hy h
      have hset := cpA_set hy h
      have hg : d.list[i]? = some d.list[i] := List.getElem?_eq_getElem h
      have hwx := hw _ (List.getElem_mem h)
      have htk : (d.list.take (i + 1)).map TActor.pa = (d.list.take i).map TActor.pa ++ [d.list[i].pa] := by rw [List.take_succ_eq_append_getElem h, List.map_append]; rfl
      generalize d.list[i] = x at hget hset hg hwx htk
      refine ⟨x, hg, ?_⟩
      simp [e0, e1, e2, e8, e9, e19, e20, e21, h, putA, TActor.enc]
      refine call_new (cloneIO hwx _) (Views.refl _ _) fun r O c2 hc2 ⟨w, hr, hO, hwl⟩ _ _ => ?_
      subst hr; subst hO
      refine ⟨_, .refl _, free_ref _ _ _, fun o ho => flat_free encI_flat _ _ o ho _, ?_⟩
      simp [e0, e1, e2, e8, e9, e19, e20, e21, h]
      refine ⟨_, hget, ?_⟩
      simp [hlen, putA, TActor.enc]
      refine hN _ _ (⟨false, ta, 7, cpA (ys ++ [⟨x.Writer, x.Line, x.Version, w, x.State, x.At, x.Seq⟩]) d.list (i + 1)⟩ :: innA (ys ++ [⟨x.Writer, x.Line, x.Version, w, x.State, x.At, x.Seq⟩])) _ h ?_ ⟨by simp [upd, e0], by simp [upd, e1], by simp [upd, e2], by simp [upd, e8], by simp [upd, e9], by simp [upd, e19], by simp [upd, e20], by simp [upd]; exact step64 (by unfold mx; omega) h, ys ++ [⟨x.Writer, x.Line, x.Version, w, x.State, x.At, x.Seq⟩], by simp [hy], ?_, rfl⟩
      · rw [innA_app, innA_one, ← hset]
        exact (List.Sublist.append (List.Sublist.refl _) ((List.Sublist.refl _).cons _)).cons_cons _
      · rw [List.map_append, hcon, htk]
        simp [TActor.pa, hwl]
    · have h1 : i = d.list.length := by omega
      subst h1
      rw [cpA_all]
      have hcl : ys.length = d.list.length := hy
      have hp0 : (([] : List PL), ys.map TActor.pa) = (s.list.map TLine.pl, d.list.map TActor.pa) := by rw [hs0, hcon, List.take_length]; rfl
      have start : RunS0 ta d.list.length (s.list.map TLine.pl, d.list.map TActor.pa) (⟨false, ta, 7, ys.map TActor.encO⟩ :: innA ys) :=
        ⟨ys, _, [], hcl, rfl, by simp, tidy0, hp0⟩
      generalize (⟨false, ta, 7, ys.map TActor.encO⟩ :: innA ys : List AObj) = H0 at start
      refine call_fn (impl_areLines (by unfold mx; omega)) (Views.refl _ _) .bool fun _ _ => ?_
      have hnz : ¬ d.list.length = 0 := by omega
      cases h1 : areLines s.list
      · simp [e0, e1, e2, e8, e9]
        exact fin_all (.inr (.inl ⟨ta, _, rfl, by rw [runAll, h1]; exact start⟩))
      simp [e0, e1, e2, e8, e9]
      refine call_fn (impl_areActors (by unfold mx; omega)) (Views.refl _ _) .bool fun c3 _ => ?_
      cases h2 : areActors d.list
      · simp [e0, e1, e2, e8, e9]
        exact fin_all (.inr (.inl ⟨ta, _, rfl, by rw [runAll, h1, h2]; exact start⟩))
      have hg0 := gd_start h1 h2
      have hall : runAll s.list d.list sch.list = runA (s.list.map TLine.pl, d.list.map TActor.pa) sch.list := by rw [runAll, h1, h2]; simp [hna]
      have hp1 : (s.list.map TLine.pl) = [] := by rw [hs0]; rfl
      have hlen0 : (s.list.map TLine.pl, d.list.map TActor.pa).2.length = d.list.length := by simp
      have hlenL : (s.list.map TLine.pl, d.list.map TActor.pa).1.length = 0 := by simp [hs0]
      generalize (s.list.map TLine.pl, d.list.map TActor.pa) = p0 at start hg0 hall hlen0 hlenL
      simp [e0, e1, e2, e8, e9, hnz]
      refine loop_drop sch.list.length (fun i e H c' => e 8 = .nsl ∧ e 9 = .ref 0 ta 7 d.list.length ∧ e 49 = sch.av 1 encI ∧ e 50 = .int .i64 sch.list.length ∧ e 51 = .int .i64 i ∧ RunS0 ta d.list.length (runA p0 (sch.list.take i)) H) ⟨by simp [upd, e8], by simp [upd, e9], by simp [upd, e2], by simp [upd, e2], rfl, by simpa [runA] using start⟩ ?_
      clear hii e0 e1 e2 e8 e9 e19 e20 e21 hN
      intro i e H c' hi' ⟨e8, e9, e49, e50, e51, hH⟩ N hN
      by_cases h : i < sch.list.length
      rotate_left
      · have : i = sch.list.length := by omega
        subst this
        simp [e8, e9, e49, e50, e51]
        exact fin_all (.inr (.inl ⟨ta, _, rfl, by rw [hall]; simpa using hH⟩))
      have hk : sch.list[i]? = some sch.list[i] := List.getElem?_eq_getElem h
      have hki := hi _ (List.getElem_mem h)
      have hst := run_take p0 sch.list h
      have hg := Gd.run hg0 sch.list i hi'
      have hlen := (run_len p0 (sch.list.take i)).2
      have hlenl := (run_len p0 (sch.list.take i)).1
      rw [hlen0] at hlen
      rw [hlenL] at hlenl
      generalize sch.list[i] = k at hk hki hst
      generalize runA p0 (sch.list.take i) = p at hH hst hg hlen hlenl
      have hp10 : p.1 = [] := List.eq_nil_of_length_eq_zero hlenl
      simp [e8, e9, e49, e50, e51, h]
      refine ⟨k, hk, ?_⟩
      have hwi : IntKind.i64.wrap ((i : Int) + 1) = ((i + 1 : Nat) : Int) := by rw [step64 (by unfold mx; omega) h]; rfl
      obtain ⟨cs, T, G, hc, hO, hp, hG, he⟩ := hH
      subst hO
      have tidyH : ∀ cs' : List TActor, innA cs' = innA cs → ∀ o, o ∈ (⟨false, ta, 7, cs'.map TActor.encO⟩ :: T : List AObj) → AvRows [] o := fun cs' hcs o ho => tidyC (tidy_A ta cs') (fun o ho => tidyA (tidy_innA cs) hG o (hp.mem_iff.1 ho)) o ho []
      by_cases hk0 : 0 ≤ k
      · have hj0 : 0 ≤ k.tmod d.list.length := Int.tmod_nonneg _ hk0
        have hj1 : k.tmod d.list.length < d.list.length := Int.tmod_lt_of_pos _ (by omega)
        have hstep : stepA k p = accAt (k.tmod d.list.length).toNat p := by unfold stepA; rw [if_pos hk0, hlen]
        obtain ⟨j, hj⟩ := Int.eq_ofNat_of_zero_le hj0
        rw [hj] at hj1 hstep
        have hsame : accAt (Int.ofNat j).toNat p = p := by
          unfold accAt; rw [hp10]
          split
          · rfl
          · simp
        simp [e8, e9, e49, e50, e51, h, hk0, hnz, hj]
        rw [← hc]
        refine call_con (impl_access0 (n := i) (by omega) (by rw [← he] at hg; exact hg.a)) fun r H' c'' _ ⟨q1, q2⟩ _ _ => ?_
        subst q1; subst q2
        refine ⟨.tup (by simp), tidyH cs rfl, ?_⟩
        simp [e8, e9, e49, e50, e51, hwi]
        refine hN _ _ _ _ h (List.Sublist.refl _) ⟨by simp [upd, e8], by simp [upd, e9], by simp [upd, e49], by simp [upd, e50], by simp [upd], ?_⟩
        rw [hst, hstep]
        exact ⟨cs, T, G, hc, rfl, hp, hG, he.trans hsame.symm⟩
      · have w1 : IntKind.i64.wrap (k + 1) = k + 1 := wrap64 (by omega) (by omega)
        have w2 : IntKind.i64.wrap (-(k + 1)) = -(k + 1) := wrap64 (by omega) (by omega)
        have hj0 : 0 ≤ (-(k + 1)).tmod d.list.length := Int.tmod_nonneg _ (by omega)
        have hj1 : (-(k + 1)).tmod d.list.length < d.list.length := Int.tmod_lt_of_pos _ (by omega)
        have hstep : stepA k p = killAt ((-(k + 1)).tmod d.list.length).toNat p := by unfold stepA; rw [if_neg hk0, hlen]
        obtain ⟨j, hj⟩ := Int.eq_ofNat_of_zero_le hj0
        rw [hj] at hj1 hstep
        have hjl : j < d.list.length := by omega
        have ha : cs[j]? = some cs[j] := List.getElem?_eq_getElem (by omega)
        generalize cs[j] = a at ha
        have eA : (cs.map TActor.encO).set j a.encO = cs.map TActor.encO := set_same (by simp [ha])
        rw [← eA]
        have hjc : j < cs.length := by omega
        have w3 : IntKind.i64.wrap ((j : Int) + 1) = j + 1 := wrap64 (by omega) (by omega)
        rw [Int.toNat_natCast] at hstep
        have hpj : p.2[j]? = some a.pa := by rw [← he]; simp [ha]
        have hkill : killAt j p = ([], p.2.set j (deadP a.pa)) := by unfold killAt; rw [hpj, hp10]; rfl
        have fin : ∀ (a' : TActor), a'.pa = deadP a.pa → a'.inn = a.inn → RunS0 ta d.list.length (runA p0 (sch.list.take (i + 1))) (⟨false, ta, 7, (cs.map TActor.encO).set j a'.encO⟩ :: T) := fun a' h1 h2 => by
          rw [hst, hstep, hkill]
          refine ⟨cs.set j a', T, G, by simpa using hc, by rw [List.map_set], ?_, hG, ?_⟩
          · refine hp.trans (List.Perm.append_right _ ?_)
            refine (perm_actor ha).trans ?_
            rw [← h2]
            exact (perm_actor' hjc a').symm
          · rw [← he, List.map_set, h1]
        have rec0 : Fnc Try.prog 46 [.nsl, .int .i64 ((j : Int) + 1)] (.tup []) := fun c => impl_recoverO (s := .nil) (owner := (j : Int) + 1) (by simp) (by simp) c
        by_cases s0 : a.State = 0
        · simp [e8, e9, e49, e50, e51, h, hk0, hnz, w1, w2, w3, hj, hjl, hjc, TActor.encO, putA, s0]
          refine call_fn0 rec0 (.tup (by simp)) fun _ _ => ?_
          simp [e8, e9, e49, e50, e51, hwi]
          exact hN _ _ _ _ h (List.Sublist.refl _) ⟨by simp [upd, e8], by simp [upd, e9], by simp [upd, e49], by simp [upd, e50], by simp [upd], fin ⟨a.Writer, a.Line, a.Version, a.Words, 4, a.At, a.Seq⟩ (by simp [TActor.pa, deadP, s0]) rfl⟩
        by_cases s1 : a.State = 1
        · simp [e8, e9, e49, e50, e51, h, hk0, hnz, w1, w2, w3, hj, hjl, hjc, TActor.encO, putA, s0, s1]
          refine call_fn0 rec0 (.tup (by simp)) fun _ _ => ?_
          simp [e8, e9, e49, e50, e51, hwi]
          exact hN _ _ _ _ h (List.Sublist.refl _) ⟨by simp [upd, e8], by simp [upd, e9], by simp [upd, e49], by simp [upd, e50], by simp [upd], fin ⟨a.Writer, a.Line, a.Version, a.Words, 4, a.At, a.Seq⟩ (by simp [TActor.pa, deadP, s1]) rfl⟩
        · simp [e8, e9, e49, e50, e51, h, hk0, hnz, w1, w2, w3, hj, hjl, hjc, TActor.encO, putA, s0, s1]
          refine call_fn0 rec0 (.tup (by simp)) fun _ _ => ?_
          simp [e8, e9, e49, e50, e51, hwi]
          exact hN _ _ _ _ h (List.Sublist.refl _) ⟨by simp [upd, e8], by simp [upd, e9], by simp [upd, e49], by simp [upd, e50], by simp [upd], fin a (by simp [TActor.pa, deadP, s0, s1]) rfl⟩
  rw [wood_inns] at hO
  subst hO
  simp only [SL.list_mk] at hb
  refine ⟨_, .refl _, free_ref _ _ _, fun o ho => tidyC (tidy_L tl l) (tidy_inns l) o ho _, ?_⟩
  simp
  refine call_new1 (clone_con (b := 72) (z := [.bool false, .int .i64 0, .int .i64 0, .nsl, .int .i64 0, .int .i64 0, .int .i64 0]) c41 (by omega) (by unfold mx; omega) _) (Views.refl _ _) fun r O c2 hc2 ⟨x, hr, hO, hx⟩ => ?_
  subst hr
  obtain ⟨ta, rfl⟩ : ∃ ta, x = .mk ta d.list := by
    cases x with
    | nil => simp at hx; rw [hx] at hna; simp at hna
    | mk t m => simp only [SL.list_mk] at hx; exact ⟨t, by rw [hx]⟩
  rw [flat_wood] at hO
  subst hO
  refine ⟨.ref 1 ta 7 d.list.length, _, _, rfl, .name, .ref, tidyA1 ?_, ?_⟩
  · exact avRows_of fun row hr a ha => by
      obtain ⟨y, _, rfl⟩ := List.mem_map.1 hr
      exact av_actor y a ha
  have hbl : l.length = s.list.length := by simpa using congrArg List.length hb
  have hpl := pl_of_con hb
  rw [ref_mk, hbl]
  simp
  refine loop_drop d.list.length (fun i e H c' => e 0 = s.av 4 TLine.enc ∧ e 1 = d.av 7 TActor.enc ∧ e 2 = sch.av 1 encI ∧ e 8 = .ref 0 tl 4 s.list.length ∧ e 9 = .ref 1 ta 7 d.list.length ∧ e 19 = d.av 7 TActor.enc ∧ e 20 = .int .i64 d.list.length ∧ e 21 = .int .i64 i ∧
    ∃ ys : List TActor, ys.length = i ∧ ys.map TActor.pa = (d.list.take i).map TActor.pa ∧ H = ⟨false, tl, 4, l.map TLine.encO⟩ :: ⟨false, ta, 7, cpA ys d.list i⟩ :: (inns l ++ innA ys)) ⟨rfl, rfl, rfl, rfl, rfl, rfl, rfl, rfl, [], rfl, rfl, by rw [cpA_zero]; simp [innA]⟩ ?_
  intro i e H c' hii ⟨e0, e1, e2, e8, e9, e19, e20, e21, ys, hy, hcon, hH⟩ N hN
  subst hH
  simp [e0, e1, e2, e8, e9, e19, e20, e21]
  refine ⟨fun h => ?_, fun h => ?_⟩
  · have hlen := cpA_len hy hii
    have hget := cpA_get hy h
    have hset := cpA_set hy h
    have hg : d.list[i]? = some d.list[i] := List.getElem?_eq_getElem h
    have hwx := hw _ (List.getElem_mem h)
    have htk : (d.list.take (i + 1)).map TActor.pa = (d.list.take i).map TActor.pa ++ [d.list[i].pa] := by rw [List.take_succ_eq_append_getElem h, List.map_append]; rfl
    generalize d.list[i] = x at hget hset hg hwx htk
    refine ⟨x, hg, ?_⟩
    generalize hT : inns l ++ innA ys = T0
    simp [e0, e1, e2, e8, e9, e19, e20, e21, h, putA, TActor.enc]
    refine call_new (cloneIO hwx _) (Views.refl _ _) fun r O c2 hc2 ⟨w, hr, hO, hwl⟩ _ _ => ?_
    subst hr; subst hO
    refine ⟨_, .refl _, free_ref _ _ _, fun o ho => flat_free encI_flat _ _ o ho _, ?_⟩
    simp [e0, e1, e2, e8, e9, e19, e20, e21, h]
    refine ⟨_, hget, ?_⟩
    simp [hlen, putA, TActor.enc]
    refine hN _ _ (⟨false, tl, 4, l.map TLine.encO⟩ :: ⟨false, ta, 7, cpA (ys ++ [⟨x.Writer, x.Line, x.Version, w, x.State, x.At, x.Seq⟩]) d.list (i + 1)⟩ :: (inns l ++ innA (ys ++ [⟨x.Writer, x.Line, x.Version, w, x.State, x.At, x.Seq⟩]))) _ h ?_ ⟨by simp [upd, e0], by simp [upd, e1], by simp [upd, e2], by simp [upd, e8], by simp [upd, e9], by simp [upd, e19], by simp [upd, e20], by simp [upd]; exact step64 (by unfold mx; omega) h, ys ++ [⟨x.Writer, x.Line, x.Version, w, x.State, x.At, x.Seq⟩], by simp [hy], ?_, rfl⟩
    · subst hT
      rw [innA_app, innA_one, ← hset]
      simp only [List.append_assoc]
      exact (List.Sublist.append (List.Sublist.refl _) (List.Sublist.append (List.Sublist.refl _) ((List.Sublist.refl _).cons _))).cons_cons _ |>.cons_cons _
    · rw [List.map_append, hcon, htk]
      simp [TActor.pa, hwl]
  · have h1 : i = d.list.length := by omega
    subst h1
    rw [cpA_all]
    have hcl : ys.length = d.list.length := hy
    have hp0 : (l.map TLine.pl, ys.map TActor.pa) = (s.list.map TLine.pl, d.list.map TActor.pa) := by rw [hpl, hcon, List.take_length]
    have start : RunS tl ta s.list.length d.list.length (s.list.map TLine.pl, d.list.map TActor.pa) (⟨false, tl, 4, l.map TLine.encO⟩ :: ⟨false, ta, 7, ys.map TActor.encO⟩ :: (inns l ++ innA ys)) :=
      ⟨l, ys, _, [], hbl, hcl, rfl, by simp, tidy0, hp0⟩
    generalize (⟨false, tl, 4, l.map TLine.encO⟩ :: ⟨false, ta, 7, ys.map TActor.encO⟩ :: (inns l ++ innA ys) : List AObj) = H0 at start
    refine call_fn (impl_areLines (by unfold mx; omega)) (Views.refl _ _) .bool fun _ _ => ?_
    have hnz : ¬ d.list.length = 0 := by omega
    cases h1 : areLines s.list
    · simp [e0, e1, e2, e8, e9]
      exact fin_all (.inl ⟨tl, ta, _, _, rfl, by rw [runAll, h1]; exact start⟩)
    simp [e0, e1, e2, e8, e9]
    refine call_fn (impl_areActors (by unfold mx; omega)) (Views.refl _ _) .bool fun c3 _ => ?_
    cases h2 : areActors d.list
    · simp [e0, e1, e2, e8, e9]
      exact fin_all (.inl ⟨tl, ta, _, _, rfl, by rw [runAll, h1, h2]; exact start⟩)
    have hg0 := gd_start h1 h2
    have hall : runAll s.list d.list sch.list = runA (s.list.map TLine.pl, d.list.map TActor.pa) sch.list := by rw [runAll, h1, h2]; simp [hna]
    generalize hp : (s.list.map TLine.pl, d.list.map TActor.pa) = p0 at start hg0 hall
    have hlen0 : p0.2.length = d.list.length := by rw [← hp]; simp
    simp [e0, e1, e2, e8, e9, hnz]
    refine loop_drop sch.list.length (fun i e H c' => e 8 = .ref 0 tl 4 s.list.length ∧ e 9 = .ref 1 ta 7 d.list.length ∧ e 49 = sch.av 1 encI ∧ e 50 = .int .i64 sch.list.length ∧ e 51 = .int .i64 i ∧ RunS tl ta s.list.length d.list.length (runA p0 (sch.list.take i)) H) ⟨by simp [upd, e8], by simp [upd, e9], by simp [upd, e2], by simp [upd, e2], rfl, by simpa [runA] using start⟩ ?_
    clear hii e0 e1 e2 e8 e9 e19 e20 e21 hN
    intro i e H c' hi' ⟨e8, e9, e49, e50, e51, hH⟩ N hN
    by_cases h : i < sch.list.length
    rotate_left
    · have : i = sch.list.length := by omega
      subst this
      simp [e8, e9, e49, e50, e51]
      exact fin_all (.inl ⟨tl, ta, _, _, rfl, by rw [hall]; simpa using hH⟩)
    have hk : sch.list[i]? = some sch.list[i] := List.getElem?_eq_getElem h
    have hki := hi _ (List.getElem_mem h)
    have hst := run_take p0 sch.list h
    have hg := Gd.run hg0 sch.list i hi'
    have hlen := (run_len p0 (sch.list.take i)).2
    rw [hlen0] at hlen
    generalize sch.list[i] = k at hk hki hst
    generalize runA p0 (sch.list.take i) = p at hH hst hg hlen
    simp [e8, e9, e49, e50, e51, h]
    refine ⟨k, hk, ?_⟩
    have hwi : IntKind.i64.wrap ((i : Int) + 1) = ((i + 1 : Nat) : Int) := by rw [step64 (by unfold mx; omega) h]; rfl
    by_cases hk0 : 0 ≤ k
    · have hj0 : 0 ≤ k.tmod d.list.length := Int.tmod_nonneg _ hk0
      have hj1 : k.tmod d.list.length < d.list.length := Int.tmod_lt_of_pos _ (by omega)
      have hstep : stepA k p = accAt (k.tmod d.list.length).toNat p := by unfold stepA; rw [if_pos hk0, hlen]
      obtain ⟨j, hj⟩ := Int.eq_ofNat_of_zero_le hj0
      rw [hj] at hj1 hstep
      simp [e8, e9, e49, e50, e51, h, hk0, hnz, hj]
      refine call_con (acc_loop (n := i) (by omega) hg (by omega) hn hd hH fun l cs G q1 q2 q3 q4 q5 => impl_access (by omega) q1 q2 q3 q4 q5) fun r H' c'' _ ⟨q1, q2, q3⟩ _ _ => ?_
      subst q1
      refine ⟨.tup (by simp), q3, ?_⟩
      simp [e8, e9, e49, e50, e51, hwi]
      refine hN _ _ _ _ h (List.Sublist.refl _) ⟨by simp [upd, e8], by simp [upd, e9], by simp [upd, e49], by simp [upd, e50], by simp [upd], ?_⟩
      rw [hst, hstep]; exact q2
    · have w1 : IntKind.i64.wrap (k + 1) = k + 1 := wrap64 (by omega) (by omega)
      have w2 : IntKind.i64.wrap (-(k + 1)) = -(k + 1) := wrap64 (by omega) (by omega)
      have hj0 : 0 ≤ (-(k + 1)).tmod d.list.length := Int.tmod_nonneg _ (by omega)
      have hj1 : (-(k + 1)).tmod d.list.length < d.list.length := Int.tmod_lt_of_pos _ (by omega)
      have hstep : stepA k p = killAt ((-(k + 1)).tmod d.list.length).toNat p := by unfold stepA; rw [if_neg hk0, hlen]
      obtain ⟨j, hj⟩ := Int.eq_ofNat_of_zero_le hj0
      rw [hj] at hj1 hstep
      have hjl : j < d.list.length := by omega
      obtain ⟨l, cs, T, G, hl, hc, hO, hp, hG, he⟩ := hH
      subst hO
      have ha : cs[j]? = some cs[j] := List.getElem?_eq_getElem (by omega)
      generalize cs[j] = a at ha
      have eA : (cs.map TActor.encO).set j a.encO = cs.map TActor.encO := set_same (by simp [ha])
      rw [← eA]
      have hjc : j < cs.length := by omega
      have w3 : IntKind.i64.wrap ((j : Int) + 1) = j + 1 := wrap64 (by omega) (by omega)
      have key := fun (a' : TActor) cc h1 h2 => kill_loop (tl := tl) (ta := ta) (c := cc) (a' := a') (n := i) (by omega) hg hn hl hc ha hp hG he h1 h2 fun l q1 q2 => impl_recoverO1 (owner := (j : Int) + 1) q1 q2 tl cc
      rw [Int.toNat_natCast] at hstep
      rw [← hstep, ← hst] at key
      by_cases s0 : a.State = 0
      · simp [e8, e9, e49, e50, e51, h, hk0, hnz, w1, w2, w3, hj, hjl, hjc, TActor.encO, putA, s0]
        refine call_con (key ⟨a.Writer, a.Line, a.Version, a.Words, 4, a.At, a.Seq⟩ _ (by simp [TActor.pa, deadP, s0]) rfl) fun r H' c'' _ ⟨q1, q2, q3⟩ _ _ => ?_
        subst q1
        refine ⟨.tup (by simp), q3, ?_⟩
        simp [e8, e9, e49, e50, e51, hwi]
        exact hN _ _ _ _ h (List.Sublist.refl _) ⟨by simp [upd, e8], by simp [upd, e9], by simp [upd, e49], by simp [upd, e50], by simp [upd], q2⟩
      by_cases s1 : a.State = 1
      · simp [e8, e9, e49, e50, e51, h, hk0, hnz, w1, w2, w3, hj, hjl, hjc, TActor.encO, putA, s0, s1]
        refine call_con (key ⟨a.Writer, a.Line, a.Version, a.Words, 4, a.At, a.Seq⟩ _ (by simp [TActor.pa, deadP, s1]) rfl) fun r H' c'' _ ⟨q1, q2, q3⟩ _ _ => ?_
        subst q1
        refine ⟨.tup (by simp), q3, ?_⟩
        simp [e8, e9, e49, e50, e51, hwi]
        exact hN _ _ _ _ h (List.Sublist.refl _) ⟨by simp [upd, e8], by simp [upd, e9], by simp [upd, e49], by simp [upd, e50], by simp [upd], q2⟩
      · simp [e8, e9, e49, e50, e51, h, hk0, hnz, w1, w2, w3, hj, hjl, hjc, TActor.encO, putA, s0, s1]
        refine call_con (key a _ (by simp [TActor.pa, deadP, s0, s1]) rfl) fun r H' c'' _ ⟨q1, q2, q3⟩ _ _ => ?_
        subst q1
        refine ⟨.tup (by simp), q3, ?_⟩
        simp [e8, e9, e49, e50, e51, hwi]
        exact hN _ _ _ _ h (List.Sublist.refl _) ⟨by simp [upd, e8], by simp [upd, e9], by simp [upd, e49], by simp [upd, e50], by simp [upd], q2⟩
end A
end Go.Proofs.Ytfcimcoanlgldaa
