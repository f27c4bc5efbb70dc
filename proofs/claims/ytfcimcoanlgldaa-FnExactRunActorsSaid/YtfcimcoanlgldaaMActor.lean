/-
  Actors kept as objects: copies, marks, and what reads marks. No condition.
-/
import Derived.Test.YtfcimcoanlgldaaActV
namespace Go.Proofs.Ytfcimcoanlgldaa
namespace A
set_option linter.unusedVariables false
set_option linter.unusedSimpArgs false
set_option maxRecDepth 100000

theorem toActorO {x : TActor} (h : x.sz ≤ 1048576) (c : Nat) : Con Try.prog 39 [.agg x.enc] [] c fun r O _ => ∃ b : TActor, r = .agg b.encO ∧ O = b.inn ∧ b.con = x.con := by
  simp only [TActor.sz] at h
  refine con_of c39 (by simp [F39]) ?_
  unfold F39
  simp [putA]
  refine call_new (toPO_fn (v := fun n => .int .i64 n) (z := .int .i64 0) (bytes := 8) c11 (fun _ _ => by simp) (by unfold szIntS at h; omega) (by unfold szIntS at h; omega) _) (Views.refl _ _) fun r O c1 hc ⟨w, hr, hO, hw⟩ _ _ => ?_
  subst hr; subst hO
  refine ⟨_, .refl _, free_ref _ _ _, fun o ho => flat_free encI_flat _ _ o ho _, ?_⟩
  simp [putA]
  refine fin_sub (Hk := w.wood 1 encI noInn) ?_ (.refl _) ⟨⟨x.Writer, x.Line, x.Version, w, x.State, x.At, x.Seq⟩, rfl, rfl, by simp [TActor.con, SL.pcon, hw]⟩
  exact ((List.Sublist.refl _).cons _).cons _ |>.cons _
theorem toActorSO {s : SL TActor} (h : szActorS s ≤ 1048576) (c : Nat) : Con Try.prog 10 [s.av 7 TActor.enc] [] c fun r H' _ => ∃ b : SL TActor, r = b.ref 7 ∧ H' = b.wood 7 TActor.encO TActor.inn ∧ b.list.map TActor.con = s.list.map TActor.con := by
  unfold szActorS at h
  exact toSO_fn (g := 39) (z := [.bool false, .int .i64 0, .int .i64 0, .nsl, .int .i64 0, .int .i64 0, .int .i64 0]) (bytes := 72) c10 rfl (fun _ => rfl) TActor.lenO TActor.freeO TActor.freeI (by omega) (by omega)
    (fun x hx c => toActorO (by have := szL_mem (sz := TActor.sz) hx; omega) c) c

/-! ### marks -/
def mkActor (k : Int) (x : TActor) : TActor := ⟨decide (k.tmod 3 = 0), k + 1, k + 1 + 1, x.Words.marks mkI cI (k + 1 + 1 + 1), k + 1 + 1 + 1 + x.Words.list.length, k + 1 + 1 + 1 + x.Words.list.length + 1, k + 1 + 1 + 1 + x.Words.list.length + 1 + 1⟩
def cActor (x : TActor) : Nat := 6 + x.Words.list.length
theorem mkActor_encO (k : Int) (x : TActor) : (mkActor k x).encO = [.bool (decide (k.tmod 3 = 0)), .int .i64 (k + 1), .int .i64 (k + 1 + 1), x.Words.ref 1, .int .i64 (k + 1 + 1 + 1 + x.Words.list.length), .int .i64 (k + 1 + 1 + 1 + x.Words.list.length + 1), .int .i64 (k + 1 + 1 + 1 + x.Words.list.length + 1 + 1)] := by
  simp [mkActor, TActor.encO, SL.marks_ref]
theorem mkActor_tags (k : Int) (x : TActor) : tags (mkActor k x).inn = tags x.inn := flat_marks (enc := encI) (w := 1) mkI cI (k + 1 + 1 + 1) x.Words

theorem markActor_nil (k : Int) : Fnc Try.prog 17 [.nsl, .int .i64 k] (.int .i64 k) := by
  refine fn_of c17 (by simp [F17]) fun c => ?_
  unfold F17
  simp
  refine loop_drop 0 (fun i e H c' => e 0 = .nsl ∧ e 1 = .int .i64 k ∧ e 5 = .int .i64 0 ∧ H = []) ⟨rfl, rfl, rfl, rfl⟩ ?_
  intro i e H c hi ⟨e0, e1, e5, hH⟩ N hN
  subst hH
  simp [e0, e1, e5]
  exact fin_plain ⟨rfl, rfl⟩
theorem heldActor_nil (k : Int) : Fnc Try.prog 20 [.nsl, .int .i64 k] (.int .i64 k) := by
  refine fn_of c20 (by simp [F20]) fun c => ?_
  unfold F20
  simp
  refine loop_drop 0 (fun i e H c' => e 0 = .nsl ∧ e 1 = .int .i64 k ∧ e 5 = .int .i64 0 ∧ H = []) ⟨rfl, rfl, rfl, rfl⟩ ?_
  intro i e H c hi ⟨e0, e1, e5, hH⟩ N hN
  subst hH
  simp [e0, e1, e5]
  exact fin_plain ⟨rfl, rfl⟩
theorem szL_cActor (l : List TActor) : l.length ≤ szL cActor l := by
  induction l with
  | nil => simp
  | cons x l ih => simp [szL, cActor] at ih ⊢; omega
theorem markActor_con1 {l : List TActor} (hz : szL cActor l ≤ 16777216) (hw : ∀ x, x ∈ l → x.Words.list.length ≤ 1048576) {k : Int} (hk : 0 ≤ k ∧ k ≤ 549755813888) (t c : Nat) :
    Con Try.prog 17 [.ref 0 t 7 l.length, .int .i64 k] (wood t 7 TActor.encO TActor.inn l) c fun r H' _ => r = .int .i64 (k + szL cActor l) ∧ H' = wood t 7 TActor.encO TActor.inn (mks mkActor cActor k l) := by
  have hln := szL_cActor l
  refine con_of c17 (by simp [F17]) ?_
  unfold F17
  simp
  refine loop_drop l.length (fun i e H c' => e 0 = .ref 0 t 7 l.length ∧ e 1 = .int .i64 (k + szL cActor (l.take i)) ∧ e 5 = .int .i64 i ∧ H = ⟨false, t, 7, (mixed mkActor cActor k l i).map TActor.encO⟩ :: (mixed mkActor cActor k l i).flatMap TActor.inn) ⟨rfl, by simp [szL], rfl, by rw [mixed_zero]; rfl⟩ ?_
  intro i e H c hi ⟨e0, e1, e5, hH⟩ N hN
  subst hH
  have hs := mixed_set mkActor cActor k l (i := i)
  have hst := fun h : i < l.length => szL_step cActor l h
  have hle := szL_le cActor l i
  have hfl := fun h : i < l.length => mixed_flat (mk := mkActor) (cnt := cActor) (k := k) (inn := TActor.inn) h
  have hfl' := fun h : i < l.length => mixed_flat' (mk := mkActor) (cnt := cActor) (k := k) (inn := TActor.inn) h
  generalize hjj : k + (szL cActor (l.take i) : Int) = j at e1 hs hfl'
  have w1 : IntKind.i64.wrap (j + 1) = j + 1 := wrap64 (by omega) (by omega)
  have w2 : IntKind.i64.wrap (j + 1 + 1) = j + 1 + 1 := wrap64 (by omega) (by omega)
  have w3 : IntKind.i64.wrap (j + 1 + 1 + 1) = j + 1 + 1 + 1 := wrap64 (by omega) (by omega)
  simp [e0, e1, e5]
  refine ⟨fun h => ?_, fun h => ?_⟩
  · have hs := hs h
    have hst := hst h
    have hg := mixed_get mkActor cActor k l h
    have hx := hw _ (List.getElem_mem h)
    rw [hfl h]
    have hfl' := hfl' h
    generalize l[i] = x at hs hst hg hx hfl'
    have w4 : IntKind.i64.wrap (j + 1 + 1 + 1 + (x.Words.list.length : Int) + 1) = j + 1 + 1 + 1 + x.Words.list.length + 1 := wrap64 (by omega) (by omega)
    have w5 : IntKind.i64.wrap (j + 1 + 1 + 1 + (x.Words.list.length : Int) + 1 + 1) = j + 1 + 1 + 1 + x.Words.list.length + 1 + 1 := wrap64 (by omega) (by omega)
    have w6 : IntKind.i64.wrap (j + 1 + 1 + 1 + (x.Words.list.length : Int) + 1 + 1 + 1) = j + 1 + 1 + 1 + x.Words.list.length + 1 + 1 + 1 := wrap64 (by omega) (by omega)
    refine ⟨h, x, hg, ?_⟩
    simp [e0, e1, e5, h, mixed_len, w1, w2, w3, putA, TActor.encO]
    refine call_midr (f := 18) (B := x.inn) (markI_con c18 (s := x.Words) hx (k := j + 1 + 1 + 1) ⟨by omega, by omega⟩ c) (Views.refl _ _) fun r B' c' hc ⟨q1, q2⟩ => ?_
    subst q1; subst q2
    refine ⟨flat_marks (enc := encI) (w := 1) mkI cI _ x.Words, .int, fun o ho => flat_free encI_flat _ _ o ho _, ?_⟩
    simp [e0, e1, e5, h, mixed_len, w4, w5, w6, putA]
    refine hN _ _ _ _ h (List.Sublist.refl _) ⟨by simp [upd, e0], ?_, by simp [upd]; exact step64 (by unfold mx; omega) h, ?_⟩
    · simp [upd, hst, cActor]; omega
    · rw [hfl', ← hs, List.map_set, mkActor_encO]
      simp [mkActor, TActor.inn]
  · have h1 : i = l.length := by omega
    subst h1
    refine fin_all ⟨?_, ?_⟩
    · rw [← hjj]; simp
    · rw [mixed_all]; rfl
theorem heldActor_fn1 {l : List TActor} (hz : szL cActor l ≤ 16777216) (hw : ∀ x, x ∈ l → x.Words.list.length ≤ 1048576) {k : Int} (hk : 0 ≤ k ∧ k ≤ 549755813888) (t : Nat) :
    Fnc Try.prog 20 [(SL.mk t (mks mkActor cActor k l)).av 7 TActor.enc, .int .i64 k] (.int .i64 (k + szL cActor l)) := by
  have hln := szL_cActor l
  refine fn_of c20 (by simp [F20]) fun c => ?_
  unfold F20
  simp
  have hlen := mks_len mkActor cActor k l
  refine loop_drop l.length (fun i e H c' => e 0 = (SL.mk t (mks mkActor cActor k l)).av 7 TActor.enc ∧ e 1 = .int .i64 (k + szL cActor (l.take i)) ∧ e 5 = .int .i64 i ∧ H = []) ⟨rfl, by simp [szL], rfl, rfl⟩ ?_
  intro i e H c hi ⟨e0, e1, e5, hH⟩ N hN
  subst hH
  have hg := fun h : i < l.length => mks_get mkActor cActor k l h
  have hst := fun h : i < l.length => szL_step cActor l h
  have hle := szL_le cActor l i
  have hle' := szL_le cActor l (i + 1)
  generalize hjj : k + (szL cActor (l.take i) : Int) = j at e1 hg
  have w1 : IntKind.i64.wrap (j + 1) = j + 1 := wrap64 (by omega) (by omega)
  have w2 : IntKind.i64.wrap (j + 1 + 1) = j + 1 + 1 := wrap64 (by omega) (by omega)
  have w3 : IntKind.i64.wrap (j + 1 + 1 + 1) = j + 1 + 1 + 1 := wrap64 (by omega) (by omega)
  simp [e0, e1, e5, hlen]
  refine ⟨fun h => ?_, fun h => ?_⟩
  · have hg := hg h
    have hst := hst h
    have hx := hw _ (List.getElem_mem h)
    generalize l[i] = x at hg hst hx
    have w4 : IntKind.i64.wrap (j + 1 + 1 + 1 + (x.Words.list.length : Int) + 1) = j + 1 + 1 + 1 + x.Words.list.length + 1 := wrap64 (by omega) (by omega)
    have w5 : IntKind.i64.wrap (j + 1 + 1 + 1 + (x.Words.list.length : Int) + 1 + 1) = j + 1 + 1 + 1 + x.Words.list.length + 1 + 1 := wrap64 (by omega) (by omega)
    have w6 : IntKind.i64.wrap (j + 1 + 1 + 1 + (x.Words.list.length : Int) + 1 + 1 + 1) = j + 1 + 1 + 1 + x.Words.list.length + 1 + 1 + 1 := wrap64 (by omega) (by omega)
    have f0 : (mkActor j x).Writer = decide (j.tmod 3 = 0) := rfl
    have f1 : (mkActor j x).Line = j + 1 := rfl
    have f2 : (mkActor j x).Version = j + 1 + 1 := rfl
    have f3 : (mkActor j x).Words = x.Words.marks mkI cI (j + 1 + 1 + 1) := rfl
    have f4 : (mkActor j x).State = j + 1 + 1 + 1 + x.Words.list.length := rfl
    have f5 : (mkActor j x).At = j + 1 + 1 + 1 + x.Words.list.length + 1 := rfl
    have f6 : (mkActor j x).Seq = j + 1 + 1 + 1 + x.Words.list.length + 1 + 1 := rfl
    refine ⟨_, hg, ?_⟩
    simp [e0, e1, e5, h, w1, w2, w3, f0, f1, f2, f3]
    refine ⟨_, hg, ?_⟩
    simp [e0, e1, e5, h, w1, w2, w3, f0, f1, f2, f3]
    refine ⟨_, hg, ?_⟩
    simp [e0, e1, e5, h, w1, w2, w3, f0, f1, f2, f3]
    refine ⟨_, hg, ?_⟩
    simp [e0, e1, e5, h, w1, w2, w3, f0, f1, f2, f3]
    refine call_fn0 (heldI_fn c29 (s := x.Words) hx ⟨by omega, by omega⟩) .int fun _ _ => ?_
    have hp : ¬ (j + 1 + 1 + 1 + (x.Words.list.length : Int) < 0) := by omega
    simp [e0, e1, e5, h, w1, w2, w3, hp]
    refine ⟨_, hg, ?_⟩
    simp [e0, e1, e5, h, f4, w4]
    refine ⟨_, hg, ?_⟩
    simp [e0, e1, e5, h, f5, w5]
    refine ⟨_, hg, ?_⟩
    simp [e0, e1, e5, h, f6, w6]
    refine hN _ _ _ _ h (List.Sublist.refl _) ⟨by simp [upd, e0], ?_, by simp [upd]; exact step64 (by unfold mx; omega) h, rfl⟩
    simp [upd, hst, cActor]; omega
  · have h1 : i = l.length := by omega
    subst h1
    refine fin_plain ⟨?_, rfl⟩
    rw [← hjj]; simp
theorem markActor_con {s : SL TActor} (hz : szL cActor s.list ≤ 16777216) (hw : ∀ x, x ∈ s.list → x.Words.list.length ≤ 1048576) {k : Int} (hk : 0 ≤ k ∧ k ≤ 549755813888) (c : Nat) :
    Con Try.prog 17 [s.ref 7, .int .i64 k] (s.wood 7 TActor.encO TActor.inn) c fun r H' _ => r = .int .i64 (k + szL cActor s.list) ∧ H' = (s.marks mkActor cActor k).wood 7 TActor.encO TActor.inn := by
  cases s with
  | nil =>
    have := markActor_nil k c
    simpa [SL.ref, SL.wood, SL.marks, szL] using this
  | mk t l => exact markActor_con1 (l := l) hz hw hk t c
theorem heldActor_fn {s : SL TActor} (hz : szL cActor s.list ≤ 16777216) (hw : ∀ x, x ∈ s.list → x.Words.list.length ≤ 1048576) {k : Int} (hk : 0 ≤ k ∧ k ≤ 549755813888) :
    Fnc Try.prog 20 [(s.marks mkActor cActor k).av 7 TActor.enc, .int .i64 k] (.int .i64 (k + szL cActor s.list)) := by
  cases s with
  | nil =>
    have := heldActor_nil k
    simpa [SL.av, SL.marks, szL] using this
  | mk t l => exact heldActor_fn1 (l := l) hz hw hk t
theorem szActor_bounds {l : List TActor} (h : l.length + szL TActor.sz l ≤ 1048576) : szL cActor l ≤ 16777216 ∧ (∀ x, x ∈ l → x.Words.list.length ≤ 1048576) ∧ l.length ≤ 1048576 := by
  have key : ∀ l : List TActor, szL cActor l ≤ 6 * l.length + szL TActor.sz l := fun l => by
    induction l with
    | nil => simp [szL]
    | cons x l ih =>
      have e : x.sz = x.Words.list.length := rfl
      simp only [szL, List.map_cons, List.sum_cons, List.length_cons, cActor, e] at ih ⊢; omega
  refine ⟨by have := key l; omega, fun x hx => ?_, by omega⟩
  have := szL_mem (sz := TActor.sz) hx
  have e : x.sz = x.Words.list.length := rfl
  omega
theorem view_amarks {S : List AObj} {s : SL TActor} {k : Int} (hs : ∀ o, o ∈ (s.marks mkActor cActor k).wood 7 TActor.encO TActor.inn → o ∈ S) : View S (s.ref 7) ((s.marks mkActor cActor k).av 7 TActor.enc) := by
  rw [← SL.marks_ref (mk := mkActor) (cnt := cActor) k s]
  exact view_actor hs
end A
end Go.Proofs.Ytfcimcoanlgldaa
