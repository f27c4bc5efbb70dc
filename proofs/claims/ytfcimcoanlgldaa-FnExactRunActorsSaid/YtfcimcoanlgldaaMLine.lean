/-
  Lines kept as objects: copies, marks, and what reads marks. No condition.
-/
import Derived.Test.YtfcimcoanlgldaaTLine
import Derived.Test.YtfcimcoanlgldaaMText
import Derived.Test.YtfcimcoanlgldaaSlc
namespace Go.Proofs.Ytfcimcoanlgldaa
namespace A
set_option linter.unusedVariables false
set_option linter.unusedSimpArgs false
set_option maxRecDepth 100000

theorem encI_flat : Flat encI := fun x a ha => by simp [encI] at ha; subst ha; exact ⟨rfl, free_int _ _⟩
def TLine.encO (s : TLine) : List AV := [.int .i64 s.Seq, .int .i64 s.Owner, .int .i64 s.Version, s.Words.ref 1]
def TLine.inn (s : TLine) : List AObj := s.Words.wood 1 encI noInn
theorem TLine.lenO (s : TLine) : s.encO.length = 4 := (rfl)
@[simp] theorem TLine.o0 (s : TLine) (K : AV → Prop) : getW s.encO 0 K = K (.int .i64 s.Seq) := by simp [TLine.encO]
@[simp] theorem TLine.o1 (s : TLine) (K : AV → Prop) : getW s.encO 1 K = K (.int .i64 s.Owner) := by simp [TLine.encO]
@[simp] theorem TLine.o2 (s : TLine) (K : AV → Prop) : getW s.encO 2 K = K (.int .i64 s.Version) := by simp [TLine.encO]
@[simp] theorem TLine.o3 (s : TLine) (K : AV → Prop) : getW s.encO 3 K = K (s.Words.ref 1) := by simp [TLine.encO]
theorem TLine.freeO : ∀ (x : TLine) a, a ∈ x.encO → Free a := fun x a ha => by
  simp [TLine.encO] at ha
  rcases ha with rfl | rfl | rfl | rfl
  · exact free_int _ _
  · exact free_int _ _
  · exact free_int _ _
  · exact free_ref _ _
theorem TLine.freeI : ∀ (x : TLine) o, o ∈ x.inn → ∀ T, AvRows T o := fun x o ho => flat_free encI_flat _ _ o ho
theorem TLine.viewO {S : List AObj} (x : TLine) (h : ∀ o, o ∈ x.inn → o ∈ S) : ∀ (j : Nat) (a a' : AV), x.encO[j]? = some a → x.enc[j]? = some a' → View S a a' := fun j a a' h1 h2 => by
  match j, h1, h2 with
  | 0, h1, h2 => simp [TLine.encO] at h1; simp [TLine.enc] at h2; subst h1; subst h2; exact .refl _
  | 1, h1, h2 => simp [TLine.encO] at h1; simp [TLine.enc] at h2; subst h1; subst h2; exact .refl _
  | 2, h1, h2 => simp [TLine.encO] at h1; simp [TLine.enc] at h2; subst h1; subst h2; exact .refl _
  | 3, h1, h2 => simp [TLine.encO] at h1; simp [TLine.enc] at h2; subst h1; subst h2; exact view_flat h encI_flat.cells
  | j + 4, h1, h2 => simp [TLine.encO] at h1
/-- Lines, seen as trees. -/
theorem view_line {S : List AObj} {s : SL TLine} (hs : ∀ o, o ∈ s.wood 4 TLine.encO TLine.inn → o ∈ S) : View S (s.ref 4) (s.av 4 TLine.enc) :=
  view_wood hs (fun x => TLine.cells x) (fun _ => rfl) fun x h => TLine.viewO x h

theorem toLineO {x : TLine} (h : x.sz ≤ 1048576) (c : Nat) : Con Try.prog 38 [.agg x.enc] [] c fun r O _ => ∃ b : TLine, r = .agg b.encO ∧ O = b.inn ∧ b.con = x.con := by
  simp only [TLine.sz] at h
  refine con_of c38 (by simp [F38]) ?_
  unfold F38
  simp [putA]
  refine call_new (toPO_fn (v := fun n => .int .i64 n) (z := .int .i64 0) (bytes := 8) c11 (fun _ _ => by simp) (by unfold szIntS at h; omega) (by unfold szIntS at h; omega) _) (Views.refl _ _) fun r O c1 hc ⟨w, hr, hO, hw⟩ _ _ => ?_
  subst hr; subst hO
  refine ⟨_, .refl _, free_ref _ _ _, fun o ho => flat_free encI_flat _ _ o ho _, ?_⟩
  simp [putA]
  refine fin_sub (Hk := w.wood 1 encI noInn) ?_ (.refl _) ⟨⟨x.Seq, x.Owner, x.Version, w⟩, rfl, rfl, by simp [TLine.con, SL.pcon, hw]⟩
  exact ((List.Sublist.refl _).cons _).cons _ |>.cons _
theorem toLineSO {s : SL TLine} (h : szLineS s ≤ 1048576) (c : Nat) : Con Try.prog 9 [s.av 4 TLine.enc] [] c fun r H' _ => ∃ b : SL TLine, r = b.ref 4 ∧ H' = b.wood 4 TLine.encO TLine.inn ∧ b.list.map TLine.con = s.list.map TLine.con := by
  unfold szLineS at h
  exact toSO_fn (g := 38) (z := [.int .i64 0, .int .i64 0, .int .i64 0, .nsl]) (bytes := 48) c9 rfl (fun _ => rfl) TLine.lenO TLine.freeO TLine.freeI (by omega) (by omega)
    (fun x hx c => toLineO (by have := szL_mem (sz := TLine.sz) hx; omega) c) c

/-! ### marks -/
def mkLine (k : Int) (x : TLine) : TLine := ⟨k, k + 1, k + 2, x.Words.marks mkI cI (k + 3)⟩
def cLine (x : TLine) : Nat := 3 + x.Words.list.length
theorem mkLine_encO (k : Int) (x : TLine) : (mkLine k x).encO = [.int .i64 k, .int .i64 (k + 1), .int .i64 (k + 2), x.Words.ref 1] := by
  simp [mkLine, TLine.encO, SL.marks_ref]
theorem mkLine_tags (k : Int) (x : TLine) : tags (mkLine k x).inn = tags x.inn := flat_marks (enc := encI) (w := 1) mkI cI (k + 3) x.Words

theorem mixed_flat {α : Type} {mk : Int → α → α} {cnt : α → Nat} {k : Int} {l : List α} {inn : α → List AObj} {i : Nat} (h : i < l.length) :
    (mixed mk cnt k l i).flatMap inn = (mks mk cnt k (l.take i)).flatMap inn ++ inn l[i] ++ (l.drop (i + 1)).flatMap inn := by
  unfold mixed
  rw [List.drop_eq_getElem_cons h, List.flatMap_append, List.flatMap_cons, List.append_assoc]
theorem mixed_flat' {α : Type} {mk : Int → α → α} {cnt : α → Nat} {k : Int} {l : List α} {inn : α → List AObj} {i : Nat} (h : i < l.length) :
    (mixed mk cnt k l (i + 1)).flatMap inn = (mks mk cnt k (l.take i)).flatMap inn ++ inn (mk (k + szL cnt (l.take i)) l[i]) ++ (l.drop (i + 1)).flatMap inn := by
  unfold mixed
  rw [mks_step mk cnt k l h, List.flatMap_append, List.flatMap_append]
  simp

theorem markLine_nil (k : Int) : Fnc Try.prog 16 [.nsl, .int .i64 k] (.int .i64 k) := by
  refine fn_of c16 (by simp [F16]) fun c => ?_
  unfold F16
  simp
  refine loop_drop 0 (fun i e H c' => e 0 = .nsl ∧ e 1 = .int .i64 k ∧ e 5 = .int .i64 0 ∧ H = []) ⟨rfl, rfl, rfl, rfl⟩ ?_
  intro i e H c hi ⟨e0, e1, e5, hH⟩ N hN
  subst hH
  simp [e0, e1, e5]
  exact fin_plain ⟨rfl, rfl⟩
theorem heldLine_nil (k : Int) : Fnc Try.prog 19 [.nsl, .int .i64 k] (.int .i64 k) := by
  refine fn_of c19 (by simp [F19]) fun c => ?_
  unfold F19
  simp
  refine loop_drop 0 (fun i e H c' => e 0 = .nsl ∧ e 1 = .int .i64 k ∧ e 5 = .int .i64 0 ∧ H = []) ⟨rfl, rfl, rfl, rfl⟩ ?_
  intro i e H c hi ⟨e0, e1, e5, hH⟩ N hN
  subst hH
  simp [e0, e1, e5]
  exact fin_plain ⟨rfl, rfl⟩

theorem markLine_con1 {l : List TLine} (hz : szL cLine l ≤ 8388608) (hw : ∀ x, x ∈ l → x.Words.list.length ≤ 1048576) {k : Int} (hk : 0 ≤ k ∧ k ≤ 549755813888) (t c : Nat) :
    Con Try.prog 16 [.ref 0 t 4 l.length, .int .i64 k] (wood t 4 TLine.encO TLine.inn l) c fun r H' _ => r = .int .i64 (k + szL cLine l) ∧ H' = wood t 4 TLine.encO TLine.inn (mks mkLine cLine k l) := by
  have hln : l.length ≤ szL cLine l := by
    have : ∀ l : List TLine, l.length ≤ szL cLine l := fun l => by
      induction l with
      | nil => simp
      | cons x l ih => simp [szL, cLine] at ih ⊢; omega
    exact this l
  refine con_of c16 (by simp [F16]) ?_
  unfold F16
  simp
  refine loop_drop l.length (fun i e H c' => e 0 = .ref 0 t 4 l.length ∧ e 1 = .int .i64 (k + szL cLine (l.take i)) ∧ e 5 = .int .i64 i ∧ H = ⟨false, t, 4, (mixed mkLine cLine k l i).map TLine.encO⟩ :: (mixed mkLine cLine k l i).flatMap TLine.inn) ⟨rfl, by simp [szL], rfl, by rw [mixed_zero]; rfl⟩ ?_
  intro i e H c hi ⟨e0, e1, e5, hH⟩ N hN
  subst hH
  have hs := mixed_set mkLine cLine k l (i := i)
  have hst := fun h : i < l.length => szL_step cLine l h
  have hle := szL_le cLine l i
  have hfl := fun h : i < l.length => mixed_flat (mk := mkLine) (cnt := cLine) (k := k) (inn := TLine.inn) h
  have hfl' := fun h : i < l.length => mixed_flat' (mk := mkLine) (cnt := cLine) (k := k) (inn := TLine.inn) h
  generalize hjj : k + (szL cLine (l.take i) : Int) = j at e1 hs hfl'
  have w1 : IntKind.i64.wrap (j + 1) = j + 1 := wrap64 (by omega) (by omega)
  have w2 : IntKind.i64.wrap (j + 1 + 1) = j + 1 + 1 := wrap64 (by omega) (by omega)
  have w3 : IntKind.i64.wrap (j + 1 + 1 + 1) = j + 1 + 1 + 1 := wrap64 (by omega) (by omega)
  simp [e0, e1, e5]
  refine ⟨fun h => ?_, fun h => ?_⟩
  · have hs := hs h
    have hst := hst h
    have hg := mixed_get mkLine cLine k l h
    have hx := hw _ (List.getElem_mem h)
    rw [hfl h]
    have hfl' := hfl' h
    generalize l[i] = x at hs hst hg hx hfl'
    refine ⟨h, x, hg, ?_⟩
    simp [e0, e1, e5, h, mixed_len, w1, w2, w3, putA, TLine.encO]
    refine call_midr (f := 18) (B := x.inn) (markI_con c18 (s := x.Words) hx (k := j + 1 + 1 + 1) ⟨by omega, by omega⟩ c) (Views.refl _ _) fun r B' c' hc ⟨q1, q2⟩ => ?_
    subst q1; subst q2
    refine ⟨flat_marks (enc := encI) (w := 1) mkI cI _ x.Words, .int, fun o ho => flat_free encI_flat _ _ o ho _, ?_⟩
    simp [e0, e1, e5]
    refine hN _ _ _ _ h (List.Sublist.refl _) ⟨by simp [upd, e0], ?_, by simp [upd]; exact step64 (by unfold mx; omega) h, ?_⟩
    · simp [upd, hst, cLine]; omega
    · rw [hfl', ← hs, List.map_set, mkLine_encO]
      simp [mkLine, TLine.inn, Int.add_assoc]
  · have h1 : i = l.length := by omega
    subst h1
    refine fin_all ⟨?_, ?_⟩
    · rw [← hjj]; simp
    · rw [mixed_all]; rfl

theorem heldLine_fn1 {l : List TLine} (hz : szL cLine l ≤ 8388608) (hw : ∀ x, x ∈ l → x.Words.list.length ≤ 1048576) {k : Int} (hk : 0 ≤ k ∧ k ≤ 549755813888) (t : Nat) :
    Fnc Try.prog 19 [(SL.mk t (mks mkLine cLine k l)).av 4 TLine.enc, .int .i64 k] (.int .i64 (k + szL cLine l)) := by
  have hln : l.length ≤ szL cLine l := by
    have : ∀ l : List TLine, l.length ≤ szL cLine l := fun l => by
      induction l with
      | nil => simp
      | cons x l ih => simp [szL, cLine] at ih ⊢; omega
    exact this l
  refine fn_of c19 (by simp [F19]) fun c => ?_
  unfold F19
  simp
  have hlen := mks_len mkLine cLine k l
  refine loop_drop l.length (fun i e H c' => e 0 = (SL.mk t (mks mkLine cLine k l)).av 4 TLine.enc ∧ e 1 = .int .i64 (k + szL cLine (l.take i)) ∧ e 5 = .int .i64 i ∧ H = []) ⟨rfl, by simp [szL], rfl, rfl⟩ ?_
  intro i e H c hi ⟨e0, e1, e5, hH⟩ N hN
  subst hH
  have hg := fun h : i < l.length => mks_get mkLine cLine k l h
  have hst := fun h : i < l.length => szL_step cLine l h
  have hle := szL_le cLine l i
  have hle' := szL_le cLine l (i + 1)
  generalize hjj : k + (szL cLine (l.take i) : Int) = j at e1 hg
  have w1 : IntKind.i64.wrap (j + 1) = j + 1 := wrap64 (by omega) (by omega)
  have w2 : IntKind.i64.wrap (j + 1 + 1) = j + 1 + 1 := wrap64 (by omega) (by omega)
  have w3 : IntKind.i64.wrap (j + 1 + 1 + 1) = j + 1 + 1 + 1 := wrap64 (by omega) (by omega)
  simp [e0, e1, e5, hlen]
  refine ⟨fun h => ?_, fun h => ?_⟩
  · have hg := hg h
    have hst := hst h
    have hx := hw _ (List.getElem_mem h)
    generalize l[i] = x at hg hst hx
    have f0 : (mkLine j x).Seq = j := rfl
    have f1 : (mkLine j x).Owner = j + 1 := rfl
    have f2 : (mkLine j x).Version = j + 1 + 1 := by simp [mkLine]; omega
    have f3 : (mkLine j x).Words = x.Words.marks mkI cI (j + 1 + 1 + 1) := by simp [mkLine]; congr 1; omega
    refine ⟨_, hg, ?_⟩
    simp [e0, e1, e5, h, w1, w2, w3, f0, f1, f2, f3]
    refine ⟨_, hg, ?_⟩
    simp [e0, e1, e5, h, w1, w2, w3, f0, f1, f2, f3]
    refine ⟨_, hg, ?_⟩
    simp [e0, e1, e5, h, w1, w2, w3, f0, f1, f2, f3]
    refine ⟨_, hg, ?_⟩
    simp [e0, e1, e5, h, w1, w2, w3, f0, f1, f2, f3]
    refine call_fn0 (heldI_fn c29 (s := x.Words) hx ⟨by omega, by omega⟩) .int fun _ _ => ?_
    have hp : ¬ (j + 1 + 1 + 1 + (x.Words.list.length : Int) < 0) := by omega
    simp [e0, e1, e5, h, w1, w2, w3, hp]
    refine hN _ _ _ _ h (List.Sublist.refl _) ⟨by simp [upd, e0], ?_, by simp [upd]; exact step64 (by unfold mx; omega) h, rfl⟩
    simp [upd, hst, cLine]; omega
  · have h1 : i = l.length := by omega
    subst h1
    refine fin_plain ⟨?_, rfl⟩
    rw [← hjj]; simp

theorem markLine_con {s : SL TLine} (hz : szL cLine s.list ≤ 8388608) (hw : ∀ x, x ∈ s.list → x.Words.list.length ≤ 1048576) {k : Int} (hk : 0 ≤ k ∧ k ≤ 549755813888) (c : Nat) :
    Con Try.prog 16 [s.ref 4, .int .i64 k] (s.wood 4 TLine.encO TLine.inn) c fun r H' _ => r = .int .i64 (k + szL cLine s.list) ∧ H' = (s.marks mkLine cLine k).wood 4 TLine.encO TLine.inn := by
  cases s with
  | nil =>
    have := markLine_nil k c
    simpa [SL.ref, SL.wood, SL.marks, szL] using this
  | mk t l => exact markLine_con1 (l := l) hz hw hk t c
theorem heldLine_fn {s : SL TLine} (hz : szL cLine s.list ≤ 8388608) (hw : ∀ x, x ∈ s.list → x.Words.list.length ≤ 1048576) {k : Int} (hk : 0 ≤ k ∧ k ≤ 549755813888) :
    Fnc Try.prog 19 [(s.marks mkLine cLine k).av 4 TLine.enc, .int .i64 k] (.int .i64 (k + szL cLine s.list)) := by
  cases s with
  | nil =>
    have := heldLine_nil k
    simpa [SL.av, SL.marks, szL] using this
  | mk t l => exact heldLine_fn1 (l := l) hz hw hk t
theorem line_first {K : AV → List AObj → Nat → Prop} {C : List AObj} {s : SL TLine} {c : Nat} (hz : szL cLine s.list ≤ 8388608) (hw : ∀ x, x ∈ s.list → x.Words.list.length ≤ 1048576)
    (kk : ∀ c', c ≤ c' → K (.int .i64 (1 + szL cLine s.list)) ((s.marks mkLine cLine 1).wood 4 TLine.encO TLine.inn ++ C) c') : CallW Try.prog 16 [s.ref 4, .int .i64 1] (s.wood 4 TLine.encO TLine.inn ++ C) c K :=
  mark_mid (A := []) (markLine_con hz hw ⟨by omega, by omega⟩ c) mkLine_tags TLine.freeO TLine.freeI kk
theorem line_last {K : AV → List AObj → Nat → Prop} {A : List AObj} {s : SL TLine} {c : Nat} (hz : szL cLine s.list ≤ 8388608) (hw : ∀ x, x ∈ s.list → x.Words.list.length ≤ 1048576)
    (kk : ∀ c', c ≤ c' → K (.int .i64 (1 + szL cLine s.list)) (A ++ (s.marks mkLine cLine 1).wood 4 TLine.encO TLine.inn) c') : CallW Try.prog 16 [s.ref 4, .int .i64 1] (A ++ s.wood 4 TLine.encO TLine.inn) c K := by
  have := mark_mid (A := A) (C := []) (K := K) (markLine_con hz hw (k := 1) ⟨by omega, by omega⟩ c) mkLine_tags TLine.freeO TLine.freeI (by simpa using kk)
  simpa using this
theorem cloneIO {s : SL Int} (hn : s.list.length ≤ 1048576) (c : Nat) : Con Try.prog 42 [s.av 1 encI] [] c fun r O _ => ∃ x : SL Int, r = x.ref 1 ∧ O = x.wood 1 encI noInn ∧ x.list = s.list :=
  clone_con (b := 8) (z := [.int .i64 0]) c42 (by omega) (by unfold mx; omega) c

theorem szLine_bounds {l : List TLine} (h : l.length + szL TLine.sz l ≤ 1048576) : szL cLine l ≤ 8388608 ∧ (∀ x, x ∈ l → x.Words.list.length ≤ 1048576) ∧ l.length ≤ 1048576 := by
  have key : ∀ l : List TLine, szL cLine l ≤ 3 * l.length + szL TLine.sz l := fun l => by
    induction l with
    | nil => simp [szL]
    | cons x l ih =>
      have e : x.sz = x.Words.list.length := rfl
      simp only [szL, List.map_cons, List.sum_cons, List.length_cons, cLine, e] at ih ⊢; omega
  refine ⟨by have := key l; omega, fun x hx => ?_, by omega⟩
  have := szL_mem (sz := TLine.sz) hx
  have e : x.sz = x.Words.list.length := rfl
  omega

theorem line_from {c : Nat} {s : SL TLine} (ht : ∀ t, t ∈ tags (s.wood 4 TLine.encO TLine.inn) → c ≤ t) : From c (s.av 4 TLine.enc) := by
  cases s with
  | nil => exact from_nsl c
  | mk t l =>
    have ht' : ∀ u, u ∈ t :: tags (l.flatMap TLine.inn) → c ≤ u := ht
    refine from_slc (ht' t (List.mem_cons_self ..)) fun row hr a ha => ?_
    obtain ⟨x, hx, rfl⟩ := List.mem_map.1 hr
    simp [TLine.enc] at ha
    rcases ha with rfl | rfl | rfl | rfl
    · simp
    · simp
    · simp
    · refine flat_from encI_flat fun u hu => ht' u (List.mem_cons_of_mem _ ?_)
      obtain ⟨o, ho, rfl⟩ := of_mem_tags hu
      exact mem_tags (List.mem_flatMap.2 ⟨x, hx, ho⟩)
theorem line_tr {f : Nat} {args : List AV} {Q : SL TLine → Prop} (h : ∀ c, Con Try.prog f args [] c fun r O _ => ∃ b : SL TLine, r = b.ref 4 ∧ O = b.wood 4 TLine.encO TLine.inn ∧ Q b) :
    Tr Try.prog f args fun _ r => ∃ b : SL TLine, r = b.av 4 TLine.enc ∧ Q b :=
  tr_of h fun c r O c' _ ⟨b, h1, h2, h3⟩ ht => ⟨b.av 4 TLine.enc, by rw [h1]; exact view_line (by rw [h2]; exact fun _ h => h), ⟨b, rfl, h3⟩, line_from (by rw [← h2]; exact ht)⟩
theorem line_tr2 {f : Nat} {args : List AV} {Q : SL TLine → List AV → Prop} (hF : ∀ b l, Q b l → ∀ a, a ∈ l → Free a) (h : ∀ c, Con Try.prog f args [] c fun r O _ => ∃ (b : SL TLine) (l : List AV), r = .tup (b.ref 4 :: l) ∧ O = b.wood 4 TLine.encO TLine.inn ∧ Q b l) :
    Tr Try.prog f args fun _ r => ∃ (b : SL TLine) (l : List AV), r = .tup (b.av 4 TLine.enc :: l) ∧ Q b l :=
  tr_of h fun c r O c' _ ⟨b, l, h1, h2, h3⟩ ht => ⟨.tup (b.av 4 TLine.enc :: l), by rw [h1]; exact view_tup (.cons (view_line (by rw [h2]; exact fun _ h => h)) (Views.refl _ _)), ⟨b, l, rfl, h3⟩,
    from_tup fun a ha => by
      rcases List.mem_cons.1 ha with rfl | ha
      · exact line_from (by rw [← h2]; exact ht)
      · exact (hF b l h3 a ha).from c⟩
theorem view_lmarks {S : List AObj} {s : SL TLine} {k : Int} (hs : ∀ o, o ∈ (s.marks mkLine cLine k).wood 4 TLine.encO TLine.inn → o ∈ S) : View S (s.ref 4) ((s.marks mkLine cLine k).av 4 TLine.enc) := by
  rw [← SL.marks_ref (mk := mkLine) (cnt := cLine) k s]
  exact view_line hs
end A
end Go.Proofs.Ytfcimcoanlgldaa
