/-
  RunActors of the reference. No condition.
-/
import Derived.Test.YtfcimcoanlgldaaAct6
namespace Go.Proofs.Ytfcimcoanlgldaa
namespace A
set_option linter.unusedVariables false
set_option linter.unusedSimpArgs false
set_option maxRecDepth 100000

theorem pl_of_con {l m : List TLine} (h : l.map TLine.con = m.map TLine.con) : l.map TLine.pl = m.map TLine.pl := by
  have e : ∀ l : List TLine, l.map TLine.pl = (l.map TLine.con).map TLine.pl := fun l => by
    rw [List.map_map]; rfl
  rw [e l, e m, h]
theorem pl_rec (o : Int) (l : List TLine) : (l.map (recL o)).map TLine.pl = (l.map TLine.pl).map (recP o) := by
  rw [List.map_map, List.map_map]
  refine List.map_congr_left fun x _ => ?_
  simp only [Function.comp_apply, recL, recP, TLine.pl]
  by_cases h : x.Owner = o <;> simp [h]
/-- All of it. -/
def runAll (l : List TLine) (cs : List TActor) (sch : List Int) : List PL × List PA :=
  if areLines l && areActors cs && decide (0 < cs.length) then runA (l.map TLine.pl, cs.map TActor.pa) sch else (l.map TLine.pl, cs.map TActor.pa)
theorem gd_start {l : List TLine} {cs : List TActor} (h1 : areLines l = true) (h2 : areActors cs = true) : Gd 0 (l.map TLine.pl, cs.map TActor.pa) := by
  unfold areLines at h1
  unfold areActors at h2
  simp only [Bool.and_eq_true, List.all_eq_true] at h1 h2
  refine ⟨fun x hx => ?_, fun a ha => ?_⟩
  · obtain ⟨y, hy, rfl⟩ := List.mem_map.1 hx
    have := h1.1 y hy
    unfold lineOk at this
    simp only [Bool.and_eq_true, decide_eq_true_eq] at this
    have hs := inR_true this.1.1.1.1
    exact ⟨hs.1, by simp [TLine.pl]; omega, by have := this.1.2; simp [TLine.pl]; omega⟩
  · obtain ⟨y, hy, rfl⟩ := List.mem_map.1 ha
    have := h2.1 y hy
    unfold actorOk at this
    simp only [Bool.and_eq_true, decide_eq_true_eq] at this
    have hs := inR_true this.1.1.1.1.1.1
    exact ⟨hs.1, hs.2, by simp [TActor.pa, this.1.1.2], by simp [TActor.pa, this.1.1.2], by simp [TActor.pa, this.1.1.2], by have := this.1.1.1.1.2; simp [TActor.pa]; omega⟩

def RunQ (p : List PL × List PA) (r : AV) (O : List AObj) : Prop := ∃ (b : SL TLine) (d : SL TActor), r = .tup [b.ref 4, d.ref 7] ∧ O = b.wood 4 TLine.encO TLine.inn ++ d.wood 7 TActor.encO TActor.inn ∧ (b.list.map TLine.pl, d.list.map TActor.pa) = p
/-- Under way: the lines first, then the actors, then what hangs on them. -/
def RunS (tl ta nl na : Nat) (p : List PL × List PA) (H : List AObj) : Prop :=
  ∃ (l : List TLine) (cs : List TActor) (T G : List AObj), l.length = nl ∧ cs.length = na ∧ H = ⟨false, tl, 4, l.map TLine.encO⟩ :: ⟨false, ta, 7, cs.map TActor.encO⟩ :: T ∧ T.Perm (inns l ++ (innA cs ++ G)) ∧ (∀ o, o ∈ G → ∀ T, AvRows T o) ∧ (l.map TLine.pl, cs.map TActor.pa) = p
theorem runS_run {tl ta nl na : Nat} {p : List PL × List PA} {r : AV} {O : List AObj} (hr : r = .tup [.ref 0 tl 4 nl, .ref 1 ta 7 na]) (h : RunS tl ta nl na p O) : ∃ Hs H2, Hs.Sublist O ∧ H2.Perm Hs ∧ ∃ r', View [] r r' ∧ RunQ p r' H2 := by
  obtain ⟨l, cs, T, G, hl, hc, hO, hp, hG, he⟩ := h
  have hsub : (inns l ++ innA cs).Sublist (inns l ++ (innA cs ++ G)) := by
    rw [← List.append_assoc]; exact List.sublist_append_left _ _
  obtain ⟨Ts, hTp, hTs⟩ := List.exists_perm_sublist hsub hp.symm
  refine ⟨⟨false, tl, 4, l.map TLine.encO⟩ :: ⟨false, ta, 7, cs.map TActor.encO⟩ :: Ts, (SL.mk tl l).wood 4 TLine.encO TLine.inn ++ (SL.mk ta cs).wood 7 TActor.encO TActor.inn, ?_, ?_, .tup [(SL.mk tl l).ref 4, (SL.mk ta cs).ref 7], ?_, .mk tl l, .mk ta cs, rfl, rfl, he⟩
  · subst hO; exact (hTs.cons_cons _).cons_cons _
  · rw [wood_inns, wood_innA]
    refine List.Perm.cons _ ?_
    refine List.perm_middle.trans (List.Perm.cons _ hTp.symm)
  · subst hr; subst hl; subst hc
    exact view_tup (.cons (.name) (.cons .name .nil))

theorem acc_loop {f tl ta j c nl na n : Nat} {p : List PL × List PA} {H : List AObj} (hn : n ≤ 2097152) (hg : Gd n p) (hj : j < na) (hnl : nl ≤ 1048576) (hna : na ≤ 1048576) (hS : RunS tl ta nl na p H)
    (hf : ∀ (l : List TLine) (cs : List TActor) (G : List AObj), j < cs.length → Gd n (l.map TLine.pl, cs.map TActor.pa) → (∀ o, o ∈ G → ∀ T, AvRows T o) → l.length ≤ 1048576 → cs.length ≤ 1048576 →
      Con Try.prog f [.ref 0 tl 4 l.length, .ref 1 ta 7 cs.length, .int .i64 j] (⟨false, tl, 4, l.map TLine.encO⟩ :: ⟨false, ta, 7, cs.map TActor.encO⟩ :: (inns l ++ (innA cs ++ G))) c fun r O _ => AccQ tl ta j l cs G r O) :
    Con Try.prog f [.ref 0 tl 4 nl, .ref 1 ta 7 na, .int .i64 j] H c fun r O _ => r = .tup [] ∧ RunS tl ta nl na (accAt j p) O ∧ ∀ o, o ∈ O → AvRows [] o := by
  obtain ⟨l, cs, T, G, hl, hc, hO, hp, hG, he⟩ := hS
  subst hl; subst hc; subst hO; subst he
  refine (con_in (hf l cs G hj hg hG hnl hna) (Views.refl _ _) (.cons _ (.cons _ hp.symm)) (.refl _ _)).mono fun r O c' _ hq => ?_
  have ht := accQ_tidy hq hG
  obtain ⟨h1, l', cs', T', J, h2, h3, h4, h5, h6⟩ := hq
  have hlen : (accAt j (l.map TLine.pl, cs.map TActor.pa)).1.length = l.length ∧ (accAt j (l.map TLine.pl, cs.map TActor.pa)).2.length = cs.length := by
    unfold accAt; split
    · simp
    · split <;> simp
  rw [← h2] at hlen
  simp at hlen
  exact ⟨h1, ⟨l', cs', T', J ++ G, hlen.1, hlen.2, h3, h4, tidyA h6 hG, h2⟩, ht.2⟩
theorem rec_loop {f tl ta c nl na n : Nat} {o : Int} {p : List PL × List PA} {H : List AObj} (hn : n ≤ 2097152) (hg : ∀ x, x ∈ p.1 → GdL n x) (hnl : nl ≤ 1048576) (hS : RunS tl ta nl na p H)
    (hf : ∀ (l : List TLine), l.length ≤ 1048576 → (∀ x, x ∈ l → 0 ≤ x.Seq ∧ x.Seq ≤ 1000000000000000) →
      Con Try.prog f [.ref 0 tl 4 l.length, .int .i64 o] (⟨false, tl, 4, l.map TLine.encO⟩ :: inns l) c fun r O _ => r = .tup [] ∧ O = ⟨false, tl, 4, (l.map (recL o)).map TLine.encO⟩ :: inns (l.map (recL o))) :
    Con Try.prog f [.ref 0 tl 4 nl, .int .i64 o] H c fun r O _ => r = .tup [] ∧ RunS tl ta nl na (p.1.map (recP o), p.2) O ∧ ∀ o, o ∈ O → AvRows [] o := by
  obtain ⟨l, cs, T, G, hl, hc, hO, hp, hG, he⟩ := hS
  subst hl; subst hc; subst hO; subst he
  have hf := hf l hnl fun x hx => by
    have := hg x.pl (List.mem_map.2 ⟨x, hx, rfl⟩)
    have h0 : 0 ≤ x.Seq := this.s0
    have h1 : x.Seq ≤ 1000000000000 + n := this.s1
    exact ⟨h0, by omega⟩
  refine con_perm (con_in (con_frame (R := ⟨false, ta, 7, cs.map TActor.encO⟩ :: (innA cs ++ G)) hf) (Views.refl _ _) ?_ (.refl _ _)) fun r O c' hq => ?_
  · rw [List.cons_append]
    exact List.Perm.cons _ (List.perm_middle.trans (List.Perm.cons _ hp.symm))
  · obtain ⟨O1, ⟨h1, h2⟩, h3⟩ := hq
    subst h2; subst h3
    refine ⟨_, ⟨false, tl, 4, (l.map (recL o)).map TLine.encO⟩ :: ⟨false, ta, 7, cs.map TActor.encO⟩ :: (inns (l.map (recL o)) ++ (innA cs ++ G)), List.Sublist.refl _, ?_, h1, ⟨l.map (recL o), cs, _, G, by simp, rfl, rfl, .refl _, hG, by rw [pl_rec]⟩, fun o ho => ?_⟩
    · exact (List.Perm.cons _ List.perm_middle).symm
    · exact tidyC (tidy_L tl _) (tidyC (tidy_A ta cs) (tidyA (tidy_inns _) (tidyA (tidy_innA _) hG))) o ho []

theorem con_run {f : Nat} {args : List AV} {p : List PL × List PA} {c : Nat} (key : Con Try.prog f args [] c fun r O _ => ∃ tl ta nl na, r = .tup [.ref 0 tl 4 nl, .ref 1 ta 7 na] ∧ RunS tl ta nl na p O) : Con Try.prog f args [] c fun r O _ => RunQ p r O :=
  Con.fin (con_perm (Q' := fun r O _ => ∃ r', View [] r r' ∧ RunQ p r' O) key fun r O c' ⟨tl, ta, nl, na, h1, h2⟩ => runS_run h1 h2) fun r O c' _ ⟨r', hv, hq⟩ _ _ => fin_sub (List.Sublist.refl _) hv hq
/-- A call that hands back an object of its own: it stands second. -/
theorem call_new1 {P : Program} {f c : Nat} {l l' : List AV} {a : AObj} {M : List AObj} {Q K : AV → List AObj → Nat → Prop} (hf : Con P f l' [] c Q) (hv : Views [] l l')
    (k : ∀ r O c', c ≤ c' → Q r O c' → ∃ r' b O', O = b :: O' ∧ View [] r r' ∧ Av [] r' ∧ (∀ o, o ∈ O → AvRows [] o) ∧ K r' (a :: b :: (M ++ O')) c') : CallW P f l (a :: M) c K := by
  intro hn hlt
  obtain ⟨h1, h2⟩ := hv.spec
  refine ⟨[], [], l', Q, List.nil_sublist _, by simp, by simp [tags], h1, h2, hf, fun r O c' hc hq ho hd => ?_⟩
  have hfresh : ∀ t, t ∈ tags O → c ≤ t := fun t ht => by
    rcases Nat.lt_or_ge t c with h | h
    · have := ho t h ht; simp [tags] at this
    · exact h
  obtain ⟨r', b, O', e, k1, k2, k3, k4⟩ := k r O c' hc hq
  subst e
  have hp : (a :: b :: (M ++ O')).Perm ((a :: M) ++ (b :: O')) := List.Perm.cons _ List.perm_middle.symm
  refine ⟨_, r', fun o h => ?_, ?_, k1, k2, fun o _ h => k3 o h, k4⟩
  · rcases List.mem_append.1 (hp.mem_iff.1 h) with h | h
    · exact .inr ⟨h, by simp [tags]⟩
    · exact .inl h
  · refine (hp.map _).nodup_iff.2 ?_
    have : tags ((a :: M) ++ (b :: O')) = tags (a :: M) ++ tags (b :: O') := by simp [tags]
    show (tags ((a :: M) ++ (b :: O'))).Nodup
    rw [this]
    refine List.nodup_append.2 ⟨hn, hd, fun x hx y hy hxy => ?_⟩
    subst hxy
    exact absurd (hlt x hx) (Nat.not_lt.2 (hfresh x hy))

theorem kill_loop {f tl ta c nl na n j : Nat} {l : List TLine} {cs : List TActor} {T G : List AObj} {p : List PL × List PA} {a a' : TActor} (hn : n ≤ 2097152) (hg : Gd n p) (hnl : nl ≤ 1048576) (hl : l.length = nl) (hc : cs.length = na) (ha : cs[j]? = some a)
    (hp : T.Perm (inns l ++ (innA cs ++ G))) (hG : ∀ o, o ∈ G → ∀ T, AvRows T o) (he : (l.map TLine.pl, cs.map TActor.pa) = p) (h1 : a'.pa = deadP a.pa) (h2 : a'.inn = a.inn)
    (hf : ∀ (l : List TLine), l.length ≤ 1048576 → (∀ x, x ∈ l → 0 ≤ x.Seq ∧ x.Seq ≤ 1000000000000000) →
      Con Try.prog f [.ref 0 tl 4 l.length, .int .i64 ((j : Int) + 1)] (⟨false, tl, 4, l.map TLine.encO⟩ :: inns l) c fun r O _ => r = .tup [] ∧ O = ⟨false, tl, 4, (l.map (recL ((j : Int) + 1))).map TLine.encO⟩ :: inns (l.map (recL ((j : Int) + 1)))) :
    Con Try.prog f [.ref 0 tl 4 nl, .int .i64 ((j : Int) + 1)] (⟨false, tl, 4, l.map TLine.encO⟩ :: ⟨false, ta, 7, (cs.map TActor.encO).set j a'.encO⟩ :: T) c fun r O _ => r = .tup [] ∧ RunS tl ta nl na (killAt j p) O ∧ ∀ o, o ∈ O → AvRows [] o := by
  have hpj : p.2[j]? = some a.pa := by rw [← he]; simp [ha]
  have hkill : killAt j p = (p.1.map (recP (j + 1)), p.2.set j (deadP a.pa)) := by unfold killAt; rw [hpj]
  have hj : j < cs.length := (List.getElem?_eq_some_iff.1 ha).1
  rw [hkill]
  refine rec_loop (n := n) (p := (p.1, p.2.set j (deadP a.pa))) hn hg.l hnl ⟨l, cs.set j a', T, G, hl, by simpa using hc, by rw [List.map_set], ?_, hG, ?_⟩ hf
  · refine hp.trans (List.Perm.append_left _ (List.Perm.append_right _ ?_))
    refine (perm_actor ha).trans ?_
    rw [← h2]
    exact (perm_actor' hj a').symm
  · rw [← he, List.map_set, h1]

theorem spec_run {s : SL TLine} {d : SL TActor} {sch : SL Int} (hn : s.list.length ≤ 1048576) (hz : ∀ x, x ∈ s.list → x.Words.list.length ≤ 1048576) (hd : d.list.length ≤ 1048576) (hw : ∀ x, x ∈ d.list → x.Words.list.length ≤ 1048576) (hs : sch.list.length ≤ 1048576) (hi : ∀ k, k ∈ sch.list → -9223372036854775808 ≤ k ∧ k ≤ 9223372036854775807) (c : Nat) :
    Con Try.prog 8 [s.av 4 TLine.enc, d.av 7 TActor.enc, sch.av 1 encI] [] c fun r O _ => RunQ (runAll s.list d.list sch.list) r O := by
  refine con_run ?_
  refine con_of c8 (by simp [F8]) ?_
  unfold F8
  simp
  refine call_new (spec_copyM hn hz _) (Views.refl _ _) fun r O c1 hc ⟨b, hr, hO, hb, tl, hbt⟩ _ _ => ?_
  subst hr
  generalize b.list = l at hbt hb
  subst hbt
  rw [wood_inns] at hO
  subst hO
  refine ⟨_, .refl _, free_ref _ _ _, fun o ho => tidyC (tidy_L tl l) (tidy_inns l) o ho _, ?_⟩
  simp
  refine call_new1 (spec_actorsO hd hw _) (Views.refl _ _) fun r O c2 hc2 ⟨b2, hr, hO, hb2, ta, hbt⟩ => ?_
  subst hr
  generalize b2.list = cs at hbt hb2
  subst hbt
  rw [wood_innA] at hO
  subst hO
  refine ⟨.ref 1 ta 7 cs.length, _, _, rfl, .name, .ref, fun o ho => tidyC (tidy_A ta cs) (tidy_innA cs) o ho _, ?_⟩
  have hbl : l.length = s.list.length := by simpa using congrArg List.length hb
  have hcl : cs.length = d.list.length := by simpa using congrArg List.length hb2
  have hpl := pl_of_con hb
  have hp0 : (l.map TLine.pl, cs.map TActor.pa) = (s.list.map TLine.pl, d.list.map TActor.pa) := by rw [hpl, hb2]
  have start : RunS tl ta s.list.length d.list.length (s.list.map TLine.pl, d.list.map TActor.pa) (⟨false, tl, 4, l.map TLine.encO⟩ :: ⟨false, ta, 7, cs.map TActor.encO⟩ :: (inns l ++ innA cs)) :=
    ⟨l, cs, _, [], hbl, hcl, rfl, by simp, tidy0, hp0⟩
  generalize (⟨false, tl, 4, l.map TLine.encO⟩ :: ⟨false, ta, 7, cs.map TActor.encO⟩ :: (inns l ++ innA cs) : List AObj) = H0 at start
  rw [ref_mk, hbl, hcl]
  simp
  refine call_fn (spec_areLines (by unfold mx; omega)) (Views.refl _ _) .bool fun _ _ => ?_
  cases h1 : areLines s.list
  · simp
    exact fin_all ⟨tl, ta, _, _, rfl, by rw [runAll, h1]; exact start⟩
  simp
  refine call_fn (spec_areActors (by unfold mx; omega)) (Views.refl _ _) .bool fun c3 _ => ?_
  cases h2 : areActors d.list
  · simp
    exact fin_all ⟨tl, ta, _, _, rfl, by rw [runAll, h1, h2]; exact start⟩
  have hg0 := gd_start h1 h2
  generalize hp : (s.list.map TLine.pl, d.list.map TActor.pa) = p0 at start hg0
  by_cases hna : 0 < d.list.length
  rotate_left
  · simp
    have hall : runAll s.list d.list sch.list = p0 := by rw [runAll, ← hp]; simp [hna]
    refine loop_drop 0 (fun i e H c' => e 1 = d.av 7 TActor.enc ∧ e 2 = sch.av 1 encI ∧ e 8 = .ref 0 tl 4 s.list.length ∧ e 9 = .ref 1 ta 7 d.list.length ∧ e 10 = .int .i64 0 ∧ H = H0) ⟨rfl, rfl, rfl, rfl, rfl, rfl⟩ ?_
    intro i e H c' hi' ⟨e1, e2, e8, e9, e10, hH⟩ N hN
    subst hH
    by_cases hs0 : 0 < sch.list.length
    · simp [e1, e2, e8, e9, e10, hs0, hna]
      exact fin_all ⟨tl, ta, _, _, rfl, by rw [hall]; exact start⟩
    · simp [e1, e2, e8, e9, e10, hs0, hna]
      exact fin_all ⟨tl, ta, _, _, rfl, by rw [hall]; exact start⟩
  have hall : runAll s.list d.list sch.list = runA p0 sch.list := by rw [runAll, h1, h2, ← hp]; simp [hna]
  have hlen0 : p0.2.length = d.list.length := by rw [← hp]; simp
  simp
  refine loop_drop sch.list.length (fun i e H c' => e 1 = d.av 7 TActor.enc ∧ e 2 = sch.av 1 encI ∧ e 8 = .ref 0 tl 4 s.list.length ∧ e 9 = .ref 1 ta 7 d.list.length ∧ e 10 = .int .i64 i ∧ RunS tl ta s.list.length d.list.length (runA p0 (sch.list.take i)) H) ⟨rfl, rfl, rfl, rfl, rfl, by simpa [runA] using start⟩ ?_
  intro i e H c' hi' ⟨e1, e2, e8, e9, e10, hH⟩ N hN
  by_cases h : i < sch.list.length
  rotate_left
  · have : i = sch.list.length := by omega
    subst this
    simp [e1, e2, e8, e9, e10]
    exact fin_all ⟨tl, ta, _, _, rfl, by rw [hall]; simpa using hH⟩
  have hk : sch.list[i]? = some sch.list[i] := List.getElem?_eq_getElem h
  have hki := hi _ (List.getElem_mem h)
  have hst := run_take p0 sch.list h
  have hg := Gd.run hg0 sch.list i hi'
  have hlen := (run_len p0 (sch.list.take i)).2
  rw [hlen0] at hlen
  generalize sch.list[i] = k at hk hki hst
  generalize runA p0 (sch.list.take i) = p at hH hst hg hlen
  simp [e1, e2, e8, e9, e10, h, hna]
  refine ⟨k, hk, ?_⟩
  have hwi : IntKind.i64.wrap ((i : Int) + 1) = ((i + 1 : Nat) : Int) := by rw [step64 (by unfold mx; omega) h]; rfl
  have hnz : ¬ d.list.length = 0 := by omega
  by_cases hk0 : 0 ≤ k
  · have hj0 : 0 ≤ k.tmod d.list.length := Int.tmod_nonneg _ hk0
    have hj1 : k.tmod d.list.length < d.list.length := Int.tmod_lt_of_pos _ (by omega)
    have hstep : stepA k p = accAt (k.tmod d.list.length).toNat p := by unfold stepA; rw [if_pos hk0, hlen]
    obtain ⟨j, hj⟩ := Int.eq_ofNat_of_zero_le hj0
    rw [hj] at hj1 hstep
    simp [e1, e2, e8, e9, e10, h, hk0, hnz, hj]
    refine call_con (acc_loop (n := i) (by omega) hg (by omega) hn hd hH fun l cs G q1 q2 q3 q4 q5 => spec_access (by omega) q1 q2 q3 q4 q5) fun r H' c'' _ ⟨q1, q2, q3⟩ _ _ => ?_
    subst q1
    refine ⟨.tup (by simp), q3, ?_⟩
    simp [e1, e2, e8, e9, e10, hwi]
    refine hN _ _ _ _ h (List.Sublist.refl _) ⟨by simp [upd, e1], by simp [upd, e2], by simp [upd, e8], by simp [upd, e9], by simp [upd], ?_⟩
    rw [hst, hstep]; exact q2
  · have w1 : IntKind.i64.wrap (k + 1) = k + 1 := wrap64 (by omega) (by omega)
    have w2 : IntKind.i64.wrap (-(k + 1)) = -(k + 1) := wrap64 (by omega) (by omega)
    have hj0 : 0 ≤ (-(k + 1)).tmod d.list.length := Int.tmod_nonneg _ (by omega)
    have hj1 : (-(k + 1)).tmod d.list.length < d.list.length := Int.tmod_lt_of_pos _ (by omega)
    have hstep : stepA k p = killAt ((-(k + 1)).tmod d.list.length).toNat p := by unfold stepA; rw [if_neg hk0, hlen]
    obtain ⟨j, hj⟩ := Int.eq_ofNat_of_zero_le hj0
    rw [hj] at hj1 hstep
    have hjl : j < d.list.length := by omega
    obtain ⟨l, cs, T, G, hl, hc, hO, hp, hG, he⟩ := hH
    subst hO
    have ha : cs[j]? = some cs[j] := List.getElem?_eq_getElem (by omega)
    generalize cs[j] = a at ha
    have eA : (cs.map TActor.encO).set j a.encO = cs.map TActor.encO := set_same (by simp [ha])
    rw [← eA]
    have hjc : j < cs.length := by omega
    have w3 : IntKind.i64.wrap ((j : Int) + 1) = j + 1 := wrap64 (by omega) (by omega)
    have key := fun (a' : TActor) cc h1 h2 => kill_loop (tl := tl) (ta := ta) (c := cc) (a' := a') (n := i) (by omega) hg hn hl hc ha hp hG he h1 h2 fun l q1 q2 => spec_recoverO1 (owner := (j : Int) + 1) q1 q2 tl cc
    rw [Int.toNat_natCast] at hstep
    rw [← hstep, ← hst] at key
    by_cases s0 : a.State = 0
    · simp [e1, e2, e8, e9, e10, h, hk0, hnz, w1, w2, w3, hj, hjl, hjc, TActor.encO, putA, s0]
      refine call_con (key ⟨a.Writer, a.Line, a.Version, a.Words, 4, a.At, a.Seq⟩ _ (by simp [TActor.pa, deadP, s0]) rfl) fun r H' c'' _ ⟨q1, q2, q3⟩ _ _ => ?_
      subst q1
      refine ⟨.tup (by simp), q3, ?_⟩
      simp [e1, e2, e8, e9, e10, hwi]
      exact hN _ _ _ _ h (List.Sublist.refl _) ⟨by simp [upd, e1], by simp [upd, e2], by simp [upd, e8], by simp [upd, e9], by simp [upd], q2⟩
    by_cases s1 : a.State = 1
    · simp [e1, e2, e8, e9, e10, h, hk0, hnz, w1, w2, w3, hj, hjl, hjc, TActor.encO, putA, s0, s1]
      refine call_con (key ⟨a.Writer, a.Line, a.Version, a.Words, 4, a.At, a.Seq⟩ _ (by simp [TActor.pa, deadP, s1]) rfl) fun r H' c'' _ ⟨q1, q2, q3⟩ _ _ => ?_
      subst q1
      refine ⟨.tup (by simp), q3, ?_⟩
      simp [e1, e2, e8, e9, e10, hwi]
      exact hN _ _ _ _ h (List.Sublist.refl _) ⟨by simp [upd, e1], by simp [upd, e2], by simp [upd, e8], by simp [upd, e9], by simp [upd], q2⟩
    · simp [e1, e2, e8, e9, e10, h, hk0, hnz, w1, w2, w3, hj, hjl, hjc, TActor.encO, putA, s0, s1]
      refine call_con (key a _ (by simp [TActor.pa, deadP, s0, s1]) rfl) fun r H' c'' _ ⟨q1, q2, q3⟩ _ _ => ?_
      subst q1
      refine ⟨.tup (by simp), q3, ?_⟩
      simp [e1, e2, e8, e9, e10, hwi]
      exact hN _ _ _ _ h (List.Sublist.refl _) ⟨by simp [upd, e1], by simp [upd, e2], by simp [upd, e8], by simp [upd, e9], by simp [upd], q2⟩
end A
end Go.Proofs.Ytfcimcoanlgldaa
