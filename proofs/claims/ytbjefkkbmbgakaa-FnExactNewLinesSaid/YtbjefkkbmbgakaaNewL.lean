/-
  NewLines of the reference and of the program give the same lines, and the law answers true. No condition.
-/
import Derived.Test.YtbjefkkbmbgakaaTypes
import Derived.Test.YtbjefkkbmbgakaaOwn
namespace Go.Proofs.Ytbjefkkbmbgakaa
namespace A
set_option linter.unusedVariables false
set_option linter.unusedSimpArgs false
set_option maxRecDepth 100000

def zLine : TLine := ⟨0, 0, 0, .nil⟩
def zLines : List TLine := List.replicate 8 zLine

theorem spec_new : Tr Try.prog 16 [] fun _ r => ∃ t, r = (SL.mk t zLines).av 4 TLine.enc := by
  intro c
  refine con_of c16 (by simp [F16]) ?_
  unfold F16
  simp
  refine fin_slc rfl rfl ?_ ⟨rfl, ⟨_, rfl⟩, from_slc (Nat.le_refl _) ?_⟩ <;> simp
theorem impl_new : Tr Try.prog 17 [] fun _ r => ∃ t, r = (SL.mk t zLines).av 4 TLine.enc := by
  intro c
  refine con_of c17 (by simp [F17]) ?_
  unfold F17
  simp
  refine fin_slc rfl rfl ?_ ⟨rfl, ⟨_, rfl⟩, from_slc (Nat.le_refl _) ?_⟩ <;> simp
theorem impl_newO (c : Nat) : Con Try.prog 17 [] [] c fun r H' _ => ∃ t, r = .ref 0 t 4 8 ∧ H' = [⟨false, t, 4, zLines.map TLine.enc⟩] := by
  refine con_of c17 (by simp [F17]) ?_
  unfold F17
  simp
  exact fin_all ⟨_, rfl, rfl⟩

theorem mark0_fn (k : Int) : Fnc Try.prog 41 [.nsl, .int .i64 k] (.int .i64 k) := by
  refine fn_of c41 (by simp [F41]) fun c => ?_
  unfold F41
  simp
  refine loop_drop 0 (fun i e H c' => e 0 = .nsl ∧ e 1 = .int .i64 k ∧ e 5 = .int .i64 0 ∧ H = []) ⟨rfl, rfl, rfl, rfl⟩ ?_
  intro i e H c hi ⟨e0, e1, e5, hH⟩ N hN
  subst hH
  simp [e0, e1, e5]
  exact fin_plain ⟨rfl, rfl⟩
theorem held0_fn (k : Int) : Fnc Try.prog 42 [.nsl, .int .i64 k] (.int .i64 k) := by
  refine fn_of c42 (by simp [F42]) fun c => ?_
  unfold F42
  simp
  refine loop_drop 0 (fun i e H c' => e 0 = .nsl ∧ e 1 = .int .i64 k ∧ e 5 = .int .i64 0 ∧ H = []) ⟨rfl, rfl, rfl, rfl⟩ ?_
  intro i e H c hi ⟨e0, e1, e5, hH⟩ N hN
  subst hH
  simp [e0, e1, e5]
  exact fin_plain ⟨rfl, rfl⟩
def mkLine (k : Int) (x : TLine) : TLine := ⟨k, k + 1, k + 2, x.Words⟩
def c3 (x : TLine) : Nat := 3
theorem szL_const {α : Type} (n : Nat) (l : List α) : szL (fun _ => n) l = n * l.length := by
  induction l with
  | nil => simp [szL]
  | cons x l ih => simp [szL] at ih ⊢; rw [Nat.mul_add]; omega

theorem mark_con {l : List TLine} (hn : l.length ≤ 1048576) (hl : ∀ x, x ∈ l → x.Words = .nil) {k : Int} (hk : 0 ≤ k ∧ k ≤ 1048576) (t c : Nat) :
    Con Try.prog 19 [.ref 0 t 4 l.length, .int .i64 k] [⟨false, t, 4, l.map TLine.enc⟩] c fun r H' _ => r = .int .i64 (k + szL c3 l) ∧ H' = [⟨false, t, 4, (mks mkLine c3 k l).map TLine.enc⟩] := by
  refine con_of c19 (by simp [F19]) ?_
  unfold F19
  simp
  refine loop_drop l.length (fun i e H c' => e 0 = .ref 0 t 4 l.length ∧ e 1 = .int .i64 (k + szL c3 (l.take i)) ∧ e 5 = .int .i64 i ∧ H = [⟨false, t, 4, (mixed mkLine c3 k l i).map TLine.enc⟩]) ⟨rfl, by simp [szL], rfl, by rw [mixed_zero]⟩ ?_
  intro i e H c hi ⟨e0, e1, e5, hH⟩ N hN
  subst hH
  have hs := mixed_set mkLine c3 k l (i := i)
  have hst := fun h : i < l.length => szL_step c3 l h
  have hj : szL c3 (l.take i) ≤ 3 * i := by
    show szL (fun _ => 3) (l.take i) ≤ _
    rw [szL_const]; simp; omega
  generalize hjj : k + (szL c3 (l.take i) : Int) = j at e1 hs
  have w1 : IntKind.i64.wrap (j + 1) = j + 1 := wrap64 (by omega) (by omega)
  have w2 : IntKind.i64.wrap (j + 1 + 1) = j + 1 + 1 := wrap64 (by omega) (by omega)
  have w3 : IntKind.i64.wrap (j + 1 + 1 + 1) = j + 1 + 1 + 1 := wrap64 (by omega) (by omega)
  simp [e0, e1, e5]
  refine ⟨fun h => ?_, fun h => ?_⟩
  · refine ⟨h, l[i], mixed_get _ _ _ _ h, ?_⟩
    have hw := hl _ (List.getElem_mem h)
    have hs := hs h
    have hst := hst h
    generalize l[i] = x at hw hs hst
    simp [e0, e1, e5, h, mixed_len, w1, w2, w3, putA, TLine.enc, hw, SL.av]
    refine call_fn (mark0_fn _) (.cons (.refl _) (.cons (.refl _) .nil)) .int fun _ _ => ?_
    simp [e0, e1, e5, h, mixed_len, w1, w2, w3]
    refine hN _ _ _ _ h (List.Sublist.refl _) ⟨by simp [upd, e0], ?_, by simp [upd]; exact step64 (by unfold mx; omega) h, ?_⟩
    · simp [upd, w1, w2, w3, hst, c3]; omega
    · rw [← hs, List.map_set]
      simp [mkLine, TLine.enc, hw, SL.av, w1, w2, w3, Int.add_assoc]
  · have h1 : i = l.length := by omega
    subst h1
    refine fin_all ⟨?_, ?_⟩
    · rw [← hjj]; simp
    · rw [mixed_all]

theorem held_fn {l : List TLine} (hn : l.length ≤ 1048576) (hl : ∀ x, x ∈ l → x.Words = .nil) {k : Int} (hk : 0 ≤ k ∧ k ≤ 1048576) (t : Nat) :
    Fnc Try.prog 20 [(SL.mk t (mks mkLine c3 k l)).av 4 TLine.enc, .int .i64 k] (.int .i64 (k + szL c3 l)) := by
  refine fn_of c20 (by simp [F20]) fun c => ?_
  unfold F20
  simp
  have hlen := mks_len mkLine c3 k l
  refine loop_drop l.length (fun i e H c' => e 0 = (SL.mk t (mks mkLine c3 k l)).av 4 TLine.enc ∧ e 1 = .int .i64 (k + szL c3 (l.take i)) ∧ e 5 = .int .i64 i ∧ H = []) ⟨rfl, by simp [szL], rfl, rfl⟩ ?_
  intro i e H c hi ⟨e0, e1, e5, hH⟩ N hN
  subst hH
  have hg := fun h : i < l.length => mks_get mkLine c3 k l h
  have hst := fun h : i < l.length => szL_step c3 l h
  have hj : szL c3 (l.take i) ≤ 3 * i := by
    show szL (fun _ => 3) (l.take i) ≤ _
    rw [szL_const]; simp; omega
  generalize hjj : k + (szL c3 (l.take i) : Int) = j at e1 hg
  have w1 : IntKind.i64.wrap (j + 1) = j + 1 := wrap64 (by omega) (by omega)
  have w2 : IntKind.i64.wrap (j + 1 + 1) = j + 1 + 1 := wrap64 (by omega) (by omega)
  have w3 : IntKind.i64.wrap (j + 1 + 1 + 1) = j + 1 + 1 + 1 := wrap64 (by omega) (by omega)
  simp [e0, e1, e5, hlen]
  refine ⟨fun h => ?_, fun h => ?_⟩
  · have hg := hg h
    have hw := hl _ (List.getElem_mem h)
    have hst := hst h
    refine ⟨_, hg, ?_⟩
    generalize l[i] = x at hw hg hst
    have hwl : (mkLine j x).Words = .nil := hw
    have f0 : (mkLine j x).Seq = j := rfl
    have f1 : (mkLine j x).Owner = j + 1 := rfl
    have f2 : (mkLine j x).Version = j + 1 + 1 := by simp [mkLine]; omega
    simp [e0, e1, e5, h, w1, w2, w3, f0]
    refine ⟨_, hg, ?_⟩
    simp [e0, e1, e5, h, w1, w2, w3, f0, f1]
    refine ⟨_, hg, ?_⟩
    simp [e0, e1, e5, h, w1, w2, w3, f0, f1, f2]
    refine ⟨_, hg, ?_⟩
    simp [e0, e1, e5, h, w1, w2, w3, f0, f1, f2, hwl, SL.av]
    refine call_fn0 (held0_fn _) .int fun _ _ => ?_
    have hpos : ¬ j + 1 + 1 + 1 < 0 := by omega
    simp [e0, e1, e5, h, w1, w2, w3, hpos]
    refine hN _ _ _ _ h (List.Sublist.refl _) ⟨by simp [upd, e0], ?_, by simp [upd]; exact step64 (by unfold mx; omega) h, rfl⟩
    simp [upd, w1, w2, w3, hst, c3]; omega
  · have h1 : i = l.length := by omega
    subst h1
    refine fin_plain ⟨?_, rfl⟩
    rw [← hjj]; simp

theorem zLines_sz (t : Nat) : szLineS (SL.mk t zLines) ≤ 1048576 := of_decide_eq_true (by kernel_rfl)
theorem zLines_cells : ∀ x, x ∈ zLines → ∀ a, a ∈ TLine.enc x → a.cell = true := fun x _ => TLine.cells x
theorem zLines_nil : ∀ x, x ∈ zLines → x.Words = .nil := fun x h => by rw [List.eq_of_mem_replicate h]; rfl
theorem avRows_line {T : List Nat} {t : Nat} {l : List TLine} (h : ∀ x, x ∈ l → x.Words = .nil) : AvRows T ⟨false, t, 4, l.map TLine.enc⟩ := avRows_of fun row hr a ha => by
  obtain ⟨x, hx, rfl⟩ := List.mem_map.1 hr
  simp [TLine.enc, h x hx, SL.av] at ha
  rcases ha with rfl | rfl | rfl | rfl <;> constructor
theorem mks_nil : ∀ (k : Int) (l : List TLine), (∀ x, x ∈ l → x.Words = .nil) → ∀ x, x ∈ mks mkLine c3 k l → x.Words = .nil
  | _, [], _ => by simp [mks]
  | k, y :: l, h => fun x hx => by
    simp only [mks, List.mem_cons] at hx
    rcases hx with rfl | hx
    · exact h y (List.mem_cons_self ..)
    · exact mks_nil _ l (fun z hz => h z (List.mem_cons_of_mem _ hz)) x hx

theorem law_new (c : Nat) : Con Try.prog 5 [] [] c fun r H' _ => r = .bool true ∧ H' = [] := by
  refine con_of c5 (by simp [F5]) ?_
  unfold F5
  simp
  refine call_tree0 spec_new fun r1 _ _ ⟨t1, e1⟩ _ => ?_
  subst e1
  simp
  refine call_con (impl_newO _) fun r H' c2 _ ⟨t2, e2, hH⟩ _ _ => ⟨by subst e2; exact .ref, by subst hH; intro o ho; simp only [List.mem_singleton] at ho; subst ho; exact avRows_line zLines_nil, ?_⟩
  subst e2; subst hH
  simp
  have hm : (mks mkLine c3 1 zLines).length = 8 := mks_len ..
  have hs : szL c3 zLines = 24 := by kernel_rfl
  refine call_fn (eqLineS_fn (s := .mk t2 zLines) (t := .mk t1 zLines) (zLines_sz _) rfl) (.cons (view_ref (by simp) rfl zLines_cells) (.cons (.refl _) .nil)) .bool fun _ _ => ?_
  simp
  refine call_con (mark_con (l := zLines) (by decide) zLines_nil ⟨by omega, by omega⟩ _ _) fun r H' c5 _ ⟨e3, hH⟩ _ _ => ⟨by subst e3; exact .int, by subst hH; intro o ho; simp only [List.mem_singleton] at ho; subst ho; exact avRows_line (mks_nil _ _ zLines_nil), ?_⟩
  subst e3; subst hH
  simp [hs]
  refine call_fn (held_fn (l := zLines) (by decide) zLines_nil ⟨by omega, by omega⟩ t2) (.cons (view_ref (by simp) hm fun x _ => TLine.cells x) (.cons (.refl _) .nil)) .int fun _ _ => ?_
  simp [hs]
  refine call_tree0 impl_new fun r4 _ _ ⟨t4, e4⟩ _ => ?_
  subst e4
  simp
  refine call_fn0 (eqLineS_fn (s := .mk t4 zLines) (t := .mk t1 zLines) (zLines_sz _) rfl) .bool fun _ _ => ?_
  simp
  refine call_fn (held_fn (l := zLines) (by decide) zLines_nil ⟨by omega, by omega⟩ t2) (.cons (view_ref (by simp) hm fun x _ => TLine.cells x) (.cons (.refl _) .nil)) .int fun _ _ => ?_
  simp [hs]
  exact fin_plain ⟨rfl, rfl⟩
end A
end Go.Proofs.Ytbjefkkbmbgakaa
