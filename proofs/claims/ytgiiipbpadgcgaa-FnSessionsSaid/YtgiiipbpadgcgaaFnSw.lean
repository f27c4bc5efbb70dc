/-
  FnSweeps answers true. No condition.
-/
import Derived.Test.YtgiiipbpadgcgaaCur4
import Derived.Test.YtgiiipbpadgcgaaTByte
import Derived.Test.YtgiiipbpadgcgaaSweep
import Derived.Test.YtgiiipbpadgcgaaAreS
namespace Go.Proofs.Ytgiiipbpadgcgaa
namespace A
set_option linter.unusedVariables false
set_option linter.unusedSimpArgs false
set_option maxRecDepth 100000

theorem once_sub {l l' : List TSession} (hs : l'.Sublist l) : once l = true → once l' = true := by
  induction hs with
  | slnil => exact id
  | cons a h ih => intro h1; simp only [once, Bool.and_eq_true] at h1; exact ih h1.2
  | cons_cons a h ih =>
    intro h1
    simp only [once, Bool.and_eq_true, Bool.not_eq_true', List.contains_eq_mem, decide_eq_false_iff_not] at h1 ⊢
    exact ⟨fun hm => h1.1 ((h.map _).subset hm), ih h1.2⟩
theorem areS_filter {l : List TSession} (p : TSession → Bool) (h : areSessions l = true) : areSessions (l.filter p) = true := by
  unfold areSessions at h ⊢
  simp only [Bool.and_eq_true, List.all_eq_true, decide_eq_true_eq] at h ⊢
  exact ⟨⟨fun x hx => h.1.1 x (List.mem_filter.1 hx).1, once_sub (List.filter_sublist.reverse) h.1.2⟩, Nat.le_trans (List.length_filter_le ..) h.2⟩

theorem big_fn (s : SL Int) : Fnc Try.prog 41 [s.av 1 encU] (.bool (decide (1048576 < (s.list.length : Int)))) := by
  refine fn_of c41 (by simp [F41]) fun c => ?_
  unfold F41
  simp
  exact fin_plain ⟨rfl, rfl⟩

theorem eqSess (x : TSession) : eqCells x.enc x.enc = some true := by simp [TSession.enc, eqCells, keyEq]

theorem law_sweeps {s : SL Int} (hs : s.list.length ≤ mx) (c : Nat) : Con Try.prog 8 [s.av 1 encU] [] c fun r H' _ => r = .bool true ∧ H' = [] := by
  refine con_of c8 (by simp [F8]) ?_
  unfold F8
  simp
  refine call_fn0 (big_fn s) .bool fun _ _ => ?_
  by_cases hbig : (1048576 : Int) < s.list.length
  · simp [hbig]
    exact fin_plain ⟨rfl, rfl⟩
  simp [hbig]
  refine call_tree0 (drawSweep (by omega)) fun r c1 _ ⟨b, l, hr, hsm, now, age, hl, hnow, hage⟩ _ => ?_
  subst hr; subst hl
  simp
  have hbl : b.list.length ≤ 16 := hsm.1
  refine call_tree0 (impl_sweep (s := b) (now := now) (age := age) (by omega)) fun r c2 _ ⟨x, hr, hx⟩ _ => ?_
  subst hr
  simp
  have done : x.list.length = b.list.length → ∀ c', finW (fun r H' _ => r = .bool true ∧ H' = []) (.bool (decide ((x.list.length : Int) = b.list.length))) [] c' := fun h c' => fin_plain ⟨by simp [h], rfl⟩
  by_cases g1 : now < 0
  · have : x.list = b.list := by rw [hx]; unfold sweepS; rw [if_neg]; simp [inR]; intros; omega
    simp [g1, this]
    exact fin_plain ⟨rfl, rfl⟩
  by_cases g2 : 1000000000000 < now
  · have : x.list = b.list := by rw [hx]; unfold sweepS; rw [if_neg]; simp [inR]; intros; omega
    simp [g1, g2, this]
    exact fin_plain ⟨rfl, rfl⟩
  by_cases g3 : age < 0
  · have : x.list = b.list := by rw [hx]; unfold sweepS; rw [if_neg]; simp [inR]; intros; omega
    simp [g1, g2, g3, this]
    exact fin_plain ⟨rfl, rfl⟩
  by_cases g4 : 1000000000000 < age
  · have : x.list = b.list := by rw [hx]; unfold sweepS; rw [if_neg]; simp [inR]; intros; omega
    simp [g1, g2, g3, g4, this]
    exact fin_plain ⟨rfl, rfl⟩
  simp [g1, g2, g3, g4]
  have hcond : (inR now 0 1000000000000 && inR age 0 1000000000000) = true := by simp [inR]; omega
  have hxf : x.list = b.list.filter (keepS now age) := by rw [hx]; unfold sweepS; rw [if_pos hcond]
  have hxl : x.list.length ≤ 16 := by rw [hxf]; exact Nat.le_trans (List.length_filter_le ..) hbl
  have hwd : IntKind.i64.wrap (now - age) = now - age := wrap64 (by omega) (by omega)
  have hgetk : ∀ i, (h : i < b.list.length) → keepS now age b.list[i] = true → x.list[((b.list.take i).filter (keepS now age)).length]? = some b.list[i] := fun i h hk => by
    rw [hxf]
    have e : b.list = b.list.take i ++ (b.list[i] :: b.list.drop (i + 1)) := by rw [← List.drop_eq_getElem_cons h, List.take_append_drop]
    have e2 : b.list.filter (keepS now age) = (b.list.take i).filter (keepS now age) ++ (b.list[i] :: (b.list.drop (i + 1)).filter (keepS now age)) := by
      conv => lhs; rw [e]
      rw [List.filter_append, List.filter_cons_of_pos hk]
    rw [e2, List.getElem?_append_right (Nat.le_refl _)]
    simp
  refine loop_drop b.list.length (fun i e H c' => e 3 = b.av 4 TSession.enc ∧ e 4 = .int .i64 now ∧ e 5 = .int .i64 age ∧ e 6 = x.av 4 TSession.enc ∧ e 8 = .int .i64 i ∧ e 7 = .int .i64 ((b.list.take i).filter (keepS now age)).length ∧ H = []) ⟨rfl, rfl, rfl, rfl, rfl, by simp [upd], rfl⟩ ?_
  intro i e H c' hi ⟨e3, e4, e5, e6, e8, e7, hH⟩ N hN
  subst hH
  have hnl : ((b.list.take i).filter (keepS now age)).length ≤ 16 := Nat.le_trans (List.length_filter_le ..) (by simp; omega)
  by_cases hlt : i < b.list.length
  · have hg : b.list[i]? = some b.list[i] := List.getElem?_eq_getElem hlt
    have hstep := filter_step (keepS now age) hlt
    have hk := hgetk i hlt
    generalize hyy : b.list[i] = y at hg hstep hk
    generalize hnn : ((b.list.take i).filter (keepS now age)).length = n at e7 hk hnl
    have hinc : IntKind.i64.wrap ((n : Int) + 1) = ((n + 1 : Nat) : Int) := by rw [wrap64 (by omega) (by omega)]; omega
    have kept : keepS now age y = true → ((b.list.take (i + 1)).filter (keepS now age)).length = n + 1 := fun h => by rw [hstep, h]; simp [hnn]
    have left : keepS now age y = false → ((b.list.take (i + 1)).filter (keepS now age)).length = n := fun h => by rw [hstep, h]; simp [hnn]
    have hfit : fitsK [1, 1, 0, 0] y.enc = true := by simp [TSession.enc, fitsK]
    simp [e3, e4, e5, e6, e7, e8, hlt]
    refine ⟨y, hg, ?_⟩
    by_cases hH0 : y.Holder = 0
    · simp [e3, e4, e5, e6, e7, e8, hlt, hH0]
      refine ⟨y, hg, ?_⟩
      by_cases hA : now - age ≤ y.At
      · have hkp : keepS now age y = true := by simp [keepS, hA]
        have hx1 := hk hkp
        have hnx : n < x.list.length := (List.getElem?_eq_some_iff.1 hx1).1
        have hnx' : ¬ (x.list.length : Int) ≤ n := by omega
        simp [e3, e4, e5, e6, e7, e8, hlt, hH0, hwd, hA, hnx, hnx']
        refine ⟨y, hx1, ?_⟩
        simp [e3, e4, e5, e6, e7, e8, hlt, hH0, hwd, hA, hnx, hnx']
        refine ⟨y, hg, ?_⟩
        simp [e3, e4, e5, e6, e7, e8, hlt, hH0, hwd, hA, hnx, hnx', eqSess, hfit, hinc]
        refine hN _ _ _ _ hlt (List.nil_sublist _) ⟨?_, ?_, ?_, ?_, ?_, ?_, rfl⟩
        · simp [upd, e3]
        · simp [upd, e4]
        · simp [upd, e5]
        · simp [upd, e6]
        · simp [upd]; exact step64 (by unfold mx; omega) hlt
        · rw [kept hkp]; simp [upd, hinc]
      · have hkp : keepS now age y = false := by simp [keepS, hA, hH0]
        simp [e3, e4, e5, e6, e7, e8, hlt, hH0, hwd, hA]
        refine hN _ _ _ _ hlt (List.nil_sublist _) ⟨?_, ?_, ?_, ?_, ?_, ?_, rfl⟩
        · simp [upd, e3]
        · simp [upd, e4]
        · simp [upd, e5]
        · simp [upd, e6]
        · simp [upd]; exact step64 (by unfold mx; omega) hlt
        · rw [left hkp]; simp [upd, e7]
    · have hkp : keepS now age y = true := by simp [keepS, hH0]
      have hx1 := hk hkp
      have hnx : n < x.list.length := (List.getElem?_eq_some_iff.1 hx1).1
      have hnx' : ¬ (x.list.length : Int) ≤ n := by omega
      simp [e3, e4, e5, e6, e7, e8, hlt, hH0, hnx, hnx']
      refine ⟨y, hx1, ?_⟩
      simp [e3, e4, e5, e6, e7, e8, hlt, hH0, hnx, hnx']
      refine ⟨y, hg, ?_⟩
      simp [e3, e4, e5, e6, e7, e8, hlt, hH0, hnx, hnx', eqSess, hfit, hinc]
      refine hN _ _ _ _ hlt (List.nil_sublist _) ⟨?_, ?_, ?_, ?_, ?_, ?_, rfl⟩
      · simp [upd, e3]
      · simp [upd, e4]
      · simp [upd, e5]
      · simp [upd, e6]
      · simp [upd]; exact step64 (by unfold mx; omega) hlt
      · rw [kept hkp]; simp [upd, hinc]
  · have hie : i = b.list.length := by omega
    subst hie
    rw [List.take_length, ← hxf] at e7
    simp [e3, e4, e5, e6, e7, e8]
    refine call_tree0 (impl_sweep (s := x) (now := now) (age := age) (by omega)) fun r c3 _ ⟨z, hr, hzz⟩ _ => ?_
    subst hr
    have hz : z.list = x.list := by rw [hzz]; unfold sweepS; rw [if_pos hcond, hxf, List.filter_filter]; simp
    simp [e3, e4, e5, e6, e7, e8, hz]
    refine call_fn0 (spec_areS (small_ok hsm (by omega))) .bool fun _ _ => ?_
    cases ha : areSessions b.list
    · simp [e3, e4, e5, e6, e7, e8, hz]
      exact fin_plain ⟨rfl, rfl⟩
    · have hax : areSessions x.list = true := by rw [hxf]; exact areS_filter _ ha
      have hxs : okSessionS x := small_ok (k := 16) ⟨hxl, fun w hw => hsm.2 w (by rw [hxf] at hw; exact (List.mem_filter.1 hw).1)⟩ (by omega)
      simp [e3, e4, e5, e6, e7, e8, hz]
      refine call_fn0 (impl_areS hxs) .bool fun _ _ => ?_
      simp [e3, e4, e5, e6, e7, e8, hz, hax]
      exact fin_plain ⟨rfl, rfl⟩
end A
end Go.Proofs.Ytgiiipbpadgcgaa
