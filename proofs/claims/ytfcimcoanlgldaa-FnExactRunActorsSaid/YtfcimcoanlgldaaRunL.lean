/-
  The law of RunActors answers true. No condition.
-/
import Derived.Test.YtfcimcoanlgldaaRunB
namespace Go.Proofs.Ytfcimcoanlgldaa
namespace A
set_option linter.unusedVariables false
set_option linter.unusedSimpArgs false
set_option maxRecDepth 100000

theorem mark_midA {α : Type} {P : Program} {f w : Nat} {encO : α → List AV} {inn : α → List AObj} {mk : Int → α → α} {cnt : α → Nat} {K : AV → List AObj → Nat → Prop} {A C : List AObj} {s : SL α} {k n : Int} {c : Nat}
    (hf : Con P f [s.ref w, .int .i64 k] (s.wood w encO inn) c fun r H' _ => r = .int .i64 n ∧ H' = (s.marks mk cnt k).wood w encO inn)
    (hi : ∀ k x, tags (inn (mk k x)) = tags (inn x)) (hO : ∀ x a, a ∈ encO x → Free a) (hI : ∀ x o, o ∈ inn x → ∀ T, AvRows T o) {H : List AObj} (hH : H = A ++ (s.wood w encO inn ++ C)) (kk : ∀ c', c ≤ c' → K (.int .i64 n) (A ++ ((s.marks mk cnt k).wood w encO inn ++ C)) c') :
    CallW P f [s.ref w, .int .i64 k] H c K := by
  rw [hH, ← List.append_assoc]
  exact mark_mid hf hi hO hI fun c' h => by rw [List.append_assoc]; exact kk c' h

theorem law_run {s : SL TLine} {d : SL TActor} {sch : SL Int} (hs : okLineS s) (hd : okActorS d) (hsch : okIntS sch) (c : Nat) : Con Try.prog 3 [s.av 4 TLine.enc, d.av 7 TActor.enc, sch.av 1 encI] [] c fun r H' _ => r = .bool true ∧ H' = [] := by
  refine con_of c3 (by simp [F3]) ?_
  unfold F3
  by_cases hwl : (1048576 : Int) < sch.list.length
  · simp [hwl]
    exact fin_plain ⟨rfl, rfl⟩
  simp [hwl]
  have hwn : sch.list.length ≤ 1048576 := by omega
  refine call_fn0 (szLineS_fn hs ⟨by omega, by omega⟩) .int fun _ _ => ?_
  simp
  refine ⟨fun _ => fin_plain ⟨rfl, rfl⟩, fun h => ?_⟩
  obtain ⟨h', h''⟩ := szOf_ge h
  refine call_fn0 (szActorS_fn hd ⟨by omega, by omega⟩) .int fun _ _ => ?_
  simp
  refine ⟨fun _ => fin_plain ⟨rfl, rfl⟩, fun hh => ?_⟩
  obtain ⟨hh', hh''⟩ := szOf_ge hh
  have hz : szLineS s ≤ 1048576 := by omega
  have hzd : szActorS d ≤ 1048576 := by omega
  have hz0 : s.list.length + szL TLine.sz s.list ≤ 1048576 := hz
  have hzd0 : d.list.length + szL TActor.sz d.list ≤ 1048576 := hzd
  have hb : ∀ b : SL TLine, b.list.map TLine.con = s.list.map TLine.con → szL cLine b.list ≤ 8388608 ∧ (∀ x, x ∈ b.list → x.Words.list.length ≤ 1048576) ∧ b.list.length ≤ 1048576 := fun b hb => szLine_bounds (by have := szLineS_con hb; unfold szLineS at this hz; omega)
  have ha : ∀ b : SL TActor, b.list.map TActor.con = d.list.map TActor.con → szL cActor b.list ≤ 16777216 ∧ (∀ x, x ∈ b.list → x.Words.list.length ≤ 1048576) ∧ b.list.length ≤ 1048576 := fun b hb => szActor_bounds (by have := szActorS_con hb; unfold szActorS at this hzd; omega)
  have hsz : ∀ b : SL TLine, b.list.map TLine.con = s.list.map TLine.con → szLineS b ≤ 1099511627776 := fun b hb => by have := szLineS_con hb; omega
  have hsa : ∀ b : SL TActor, b.list.map TActor.con = d.list.map TActor.con → szActorS b ≤ 1099511627776 := fun b hb => by have := szActorS_con hb; omega
  have hin : ∀ l : List Int, l = sch.list → ∀ k, k ∈ l → -9223372036854775808 ≤ k ∧ k ≤ 9223372036854775807 := fun l hl k hk => by
    have := hsch.2 k (hl ▸ hk)
    have e1 : IntKind.i64.min = -9223372036854775808 := by decide
    have e2 : IntKind.i64.max = 9223372036854775807 := by decide
    exact ⟨by have := this.1; omega, by have := this.2; omega⟩
  have hR : ∀ (b : SL TLine) (e : SL TActor), b.list.map TLine.con = s.list.map TLine.con → e.list.map TActor.con = d.list.map TActor.con → runAll b.list e.list sch.list = runAll s.list d.list sch.list := fun b e h1 h2 => runAll_con h1 h2 _
  have eqL : ∀ (b w : SL TLine) (e v : SL TActor) (p : List PL × List PA), (b.list.map TLine.pl, e.list.map TActor.pa) = p → (w.list.map TLine.pl, v.list.map TActor.pa) = p → b.list.map TLine.con = w.list.map TLine.con ∧ e.list.map TActor.con = v.list.map TActor.con := fun b w e v p h1 h2 => by
    have h3 := h1.trans h2.symm
    exact ⟨con_of_pl (congrArg Prod.fst h3), con_of_pa (congrArg Prod.snd h3)⟩
  refine call_tree0 (toLineS_fn hz) fun r1 _ _ ⟨b1, e1, q1⟩ _ => ?_
  subst e1
  simp
  refine call_tree0 (toActorS_fn hzd) fun r1 _ _ ⟨a1, e1, p1⟩ _ => ?_
  subst e1
  simp
  refine call_tree0 (toIntS_fn (s := sch) hwn) fun r1 _ _ ⟨t1, e1⟩ _ => ?_
  subst e1
  simp
  refine call_tree0 (run_tr (spec_run (s := b1) (d := a1) (sch := .mk t1 sch.list) (hb _ q1).2.2 (hb _ q1).2.1 (ha _ p1).2.2 (ha _ p1).2.1 hwn (hin _ rfl))) fun r2 _ _ ⟨w, v, e2, Qw⟩ _ => ?_
  subst e2
  rw [SL.list_mk, hR _ _ q1 p1] at Qw
  simp
  refine call_new (toLineSO hz _) (Views.refl _ _) fun r3 O c3 hc3 ⟨x, e3, hO, q3⟩ _ _ => ?_
  subst e3; subst hO
  refine ⟨_, .refl _, free_ref _ _ _, fun o ho => free_wood TLine.freeO TLine.freeI _ o ho _, ?_⟩
  simp
  refine call_new (toActorSO hzd _) (Views.refl _ _) fun r3 O c3 hc3 ⟨y, e3, hO, p3⟩ _ _ => ?_
  subst e3; subst hO
  refine ⟨_, .refl _, free_ref _ _ _, fun o ho => free_wood TActor.freeO TActor.freeI _ o ho _, ?_⟩
  simp
  refine call_new (toPO_fn (v := fun n => .int .i64 n) (z := .int .i64 0) (bytes := 8) c11 (fun _ _ => by simp) (by omega) (by omega) _) (Views.refl _ _) fun r O c4 hc4 ⟨u, hr4, hO, hu⟩ _ _ => ?_
  subst hr4; subst hO
  refine ⟨_, .refl _, free_ref _ _ _, fun o ho => flat_free encI_flat _ _ o ho _, ?_⟩
  simp
  have hul : u.list.length ≤ 1048576 := by rw [hu]; exact hwn
  refine call_new (impl_run (s := x) (d := y) (sch := u) (hb _ q3).2.2 (hb _ q3).2.1 (ha _ p3).2.2 (ha _ p3).2.1 hul (hin _ hu) _) (.cons (view_line (fun _ h => by simp; exact .inl h)) (.cons (view_actor (fun _ h => by simp; exact .inr (.inl h))) (.cons (view_flat (fun _ h => by simp; exact .inr (.inr h)) encI_flat.cells) .nil))) fun r4 O c5 hc5 ⟨g, ge, e4, hO, Qg⟩ _ _ => ?_
  subst e4; subst hO
  rw [hu, hR _ _ q3 p3] at Qg
  refine ⟨_, .refl _, free_tup (by simp [free_ref]) _, fun o ho => ?_, ?_⟩
  · rcases List.mem_append.1 ho with ho | ho
    · exact free_wood TLine.freeO TLine.freeI _ o ho _
    · exact free_wood TActor.freeO TActor.freeI _ o ho _
  obtain ⟨gw1, gw2⟩ := eqL _ _ _ _ _ Qg Qw
  have sg := run_sz hz0 hzd0 Qg
  simp
  have M0 : ∀ {A0 B0 : List AObj} {o : AObj}, o ∈ A0 → o ∈ A0 ++ B0 := fun h => List.mem_append_left _ h
  have M1 : ∀ {A0 A1 B0 : List AObj} {o : AObj}, o ∈ A1 → o ∈ A0 ++ (A1 ++ B0) := fun h => List.mem_append_right _ (List.mem_append_left _ h)
  have M2 : ∀ {A0 A1 A2 B0 : List AObj} {o : AObj}, o ∈ A2 → o ∈ A0 ++ (A1 ++ (A2 ++ B0)) := fun h => List.mem_append_right _ (List.mem_append_right _ (List.mem_append_left _ h))
  have M3 : ∀ {A0 A1 A2 A3 B0 : List AObj} {o : AObj}, o ∈ A3 → o ∈ A0 ++ (A1 ++ (A2 ++ (A3 ++ B0))) := fun h => List.mem_append_right _ (List.mem_append_right _ (List.mem_append_right _ (List.mem_append_left _ h)))
  have M4 : ∀ {A0 A1 A2 A3 A4 : List AObj} {o : AObj}, o ∈ A4 → o ∈ A0 ++ (A1 ++ (A2 ++ (A3 ++ A4))) := fun h => List.mem_append_right _ (List.mem_append_right _ (List.mem_append_right _ (List.mem_append_right _ h)))
  refine call_fn (eqLineS_fn (s := g) (t := w) sg.l3 gw1) (.cons (view_line (fun _ h => M3 h)) (.cons (.refl _) .nil)) .bool fun _ _ => ?_
  simp
  refine call_fn (eqActorS_fn (s := ge) (t := v) sg.a3 gw2) (.cons (view_actor (fun _ h => M4 h)) (.cons (.refl _) .nil)) .bool fun _ _ => ?_
  simp
  refine call_tree0 (toLineS_fn hz) fun r5 _ _ ⟨b5, e5, q5⟩ _ => ?_
  subst e5
  simp
  refine call_fn (eqLineS_fn (s := x) (t := b5) (hsz _ q3) (by rw [q3, q5])) (.cons (view_line (fun _ h => M0 h)) (.cons (.refl _) .nil)) .bool fun _ _ => ?_
  simp
  refine call_tree0 (toActorS_fn hzd) fun r5 _ _ ⟨a5, e5, p5⟩ _ => ?_
  subst e5
  simp
  refine call_fn (eqActorS_fn (s := y) (t := a5) (hsa _ p3) (by rw [p3, p5])) (.cons (view_actor (fun _ h => M1 h)) (.cons (.refl _) .nil)) .bool fun _ _ => ?_
  simp
  refine call_tree0 (toIntS_fn (s := sch) hwn) fun r1 _ _ ⟨t2, e1⟩ _ => ?_
  subst e1
  simp
  refine call_fn (eqIntS_fn (s := u) (t := .mk t2 sch.list) (by unfold szIntS; omega) hu) (.cons (view_flat (enc := encI) (fun _ h => M2 h) encI_flat.cells) (.cons (.refl _) .nil)) .bool fun _ _ => ?_
  simp
  refine line_first (hb _ q3).1 (hb _ q3).2.1 fun _ _ => ?_
  have hc0 := (hb _ q3).1
  have hc1 := (ha _ p3).1
  simp
  refine mark_midA (A := (x.marks mkLine cLine 1).wood 4 TLine.encO TLine.inn) (markActor_con (ha _ p3).1 (ha _ p3).2.1 (k := 1 + szL cLine x.list) ⟨by omega, by omega⟩ _) mkActor_tags TActor.freeO TActor.freeI rfl fun _ _ => ?_
  simp
  refine mark_midA (A := (x.marks mkLine cLine 1).wood 4 TLine.encO TLine.inn ++ (y.marks mkActor cActor (1 + szL cLine x.list)).wood 7 TActor.encO TActor.inn) (markI_con c18 hul (k := 1 + szL cLine x.list + szL cActor y.list) ⟨by omega, by omega⟩ _) (fun _ _ => rfl) (fun x a ha => (encI_flat x a ha).2) (fun x o ho => by cases ho) (by rw [List.append_assoc]; rfl) fun _ _ => ?_
  have hk1 : ¬ ((1 : Int) + (szL cLine x.list : Int) + (szL cActor y.list : Int) + (u.list.length : Int) < 0) := by omega
  rw [List.append_assoc]
  simp [hk1]
  refine call_fn (eqLineS_fn (s := g) (t := w) sg.l3 gw1) (.cons (view_line (fun _ h => M3 h)) (.cons (.refl _) .nil)) .bool fun _ _ => ?_
  simp [hk1]
  refine call_fn (eqActorS_fn (s := ge) (t := v) sg.a3 gw2) (.cons (view_actor (fun _ h => M4 h)) (.cons (.refl _) .nil)) .bool fun _ _ => ?_
  simp [hk1]
  generalize (x.marks mkLine cLine 1).wood 4 TLine.encO TLine.inn = W0
  generalize (y.marks mkActor cActor (1 + szL cLine x.list)).wood 7 TActor.encO TActor.inn = W1
  generalize hW2 : (u.marks mkI cI (1 + szL cLine x.list + szL cActor y.list)).wood 1 encI noInn = W2
  obtain ⟨W, hW⟩ : ∃ W, W = W0 ++ (W1 ++ W2) := ⟨_, rfl⟩
  have sg1 := sg.l1
  have sg2 := sg.a1
  refine mark_midA (A := W) (C := ge.wood 7 TActor.encO TActor.inn) (markLine_con sg.l1 sg.l2 (k := 1) ⟨by omega, by omega⟩ _) mkLine_tags TLine.freeO TLine.freeI (by rw [hW]; simp only [List.append_assoc]) fun _ _ => ?_
  simp
  refine mark_midA (A := W ++ (g.marks mkLine cLine 1).wood 4 TLine.encO TLine.inn) (C := []) (markActor_con sg.a1 sg.a2 (k := 1 + szL cLine g.list) ⟨by omega, by omega⟩ _) mkActor_tags TActor.freeO TActor.freeI (by simp only [List.append_assoc, List.append_nil]) fun _ _ => ?_
  have hk2 : ¬ ((1 : Int) + (szL cLine g.list : Int) < 0) := by omega
  have hk3 : ¬ ((1 : Int) + (szL cLine g.list : Int) + (szL cActor ge.list : Int) < 0) := by omega
  rw [List.append_nil, List.append_assoc]
  simp [hk1, hk2, hk3]
  have V0 : ∀ {A0 A1 B0 : List AObj} {o : AObj}, o ∈ A1 → o ∈ A0 ++ (A1 ++ B0) := fun h => List.mem_append_right _ (List.mem_append_left _ h)
  have V1 : ∀ {A0 A1 A2 : List AObj} {o : AObj}, o ∈ A2 → o ∈ A0 ++ (A1 ++ A2) := fun h => List.mem_append_right _ (List.mem_append_right _ h)
  refine call_fn (heldLine_fn (s := g) sg.l1 sg.l2 ⟨by omega, by omega⟩) (.cons (view_lmarks (fun _ h => V0 h)) (.cons (.refl _) .nil)) .int fun _ _ => ?_
  simp [hk1, hk2, hk3]
  refine call_fn (heldActor_fn (s := ge) sg.a1 sg.a2 ⟨by omega, by omega⟩) (.cons (view_amarks (fun _ h => V1 h)) (.cons (.refl _) .nil)) .int fun _ _ => ?_
  simp [hk1, hk2, hk3]
  refine call_tree0 (toLineS_fn hz) fun r6 _ _ ⟨b6, e6, q6⟩ _ => ?_
  subst e6
  simp
  refine call_tree0 (toActorS_fn hzd) fun r6 _ _ ⟨a6, e6, p6⟩ _ => ?_
  subst e6
  simp
  refine call_tree0 (toIntS_fn (s := sch) hwn) fun r1 _ _ ⟨t3, e1⟩ _ => ?_
  subst e1
  simp
  refine call_tree0 (run_tr (impl_run (s := b6) (d := a6) (sch := .mk t3 sch.list) (hb _ q6).2.2 (hb _ q6).2.1 (ha _ p6).2.2 (ha _ p6).2.1 hwn (hin _ rfl))) fun r2 _ _ ⟨z, ze, e2, Qz⟩ _ => ?_
  subst e2
  rw [SL.list_mk, hR _ _ q6 p6] at Qz
  obtain ⟨zw1, zw2⟩ := eqL _ _ _ _ _ Qz Qw
  have sz := run_sz hz0 hzd0 Qz
  simp
  refine call_fn0 (eqLineS_fn (s := z) (t := w) sz.l3 zw1) .bool fun _ _ => ?_
  simp
  refine call_fn0 (eqActorS_fn (s := ze) (t := v) sz.a3 zw2) .bool fun _ _ => ?_
  simp
  refine call_fn (heldLine_fn (s := g) sg.l1 sg.l2 ⟨by omega, by omega⟩) (.cons (view_lmarks (fun _ h => V0 h)) (.cons (.refl _) .nil)) .int fun _ _ => ?_
  simp [hk1, hk2, hk3]
  refine call_fn (heldActor_fn (s := ge) sg.a1 sg.a2 ⟨by omega, by omega⟩) (.cons (view_amarks (fun _ h => V1 h)) (.cons (.refl _) .nil)) .int fun _ _ => ?_
  simp [hk1, hk2, hk3]
  exact fin_plain ⟨rfl, rfl⟩
end A
end Go.Proofs.Ytfcimcoanlgldaa
