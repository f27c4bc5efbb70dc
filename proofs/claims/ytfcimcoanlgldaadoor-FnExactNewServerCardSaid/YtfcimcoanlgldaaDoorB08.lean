import Derived.Test.YtfcimcoanlgldaaDoorB07

/-
  Paths, brought into their plain form by the reference and by the program: the same plain function. No condition.
-/




namespace Go.Proofs.YtfcimcoanlgldaaDoor
namespace A
set_option linter.unusedVariables false
set_option linter.unusedSimpArgs false
set_option maxRecDepth 100000

/-! ### the plain function -/
def pC (b : UInt8) : Bool := isA b || isD b || decide (b.toNat = 95) || decide (b.toNat = 45) || decide (b.toNat = 46)
def pPart (l : List UInt8) : Bool := l.all pC && decide (l.length ≤ 20)
def pstep (o : List (List UInt8)) (x : List UInt8) : Option (List (List UInt8)) :=
  if x = [] ∨ x = [46] then some o else if x = [46, 46] then (if o = [] then none else some o.dropLast) else if pPart x then some (o ++ [x]) else none
def pfold : List (List UInt8) → List (List UInt8) → Option (List (List UInt8))
  | o, [] => some o
  | o, x :: r => (pstep o x).bind fun o' => pfold o' r
def splitP (l : List UInt8) : Option (List (List UInt8)) := pfold [] (Lib.split l [47])
def normP (l : List UInt8) : Option (List UInt8) := if 400 < l.length then none else (splitP l).bind fun o => if inR (joinL [47] o).length 1 60 then some (joinL [47] o) else none
def isN (l : List UInt8) : Bool := decide (normP l = some l)
theorem pstep_ok {o o' : List (List UInt8)} {x : List UInt8} (h : pstep o x = some o') (ho : ∀ y, y ∈ o → pPart y = true) : (∀ y, y ∈ o' → pPart y = true) ∧ o'.length ≤ o.length + 1 := by
  unfold pstep at h
  split at h
  · cases h; exact ⟨ho, by omega⟩
  · split at h
    · split at h
      · cases h
      · cases h; exact ⟨fun y hy => ho y ((List.dropLast_sublist o).subset hy), by simp; omega⟩
    · split at h
      · cases h
        refine ⟨fun y hy => ?_, by simp⟩
        rcases List.mem_append.1 hy with hy | hy
        · exact ho y hy
        · simp at hy; subst hy; assumption
      · cases h
theorem pfold_ok : ∀ {r o o' : List (List UInt8)}, pfold o r = some o' → (∀ y, y ∈ o → pPart y = true) → (∀ y, y ∈ o' → pPart y = true) ∧ o'.length ≤ o.length + r.length
  | [], o, o', h, ho => by simp [pfold] at h; subst h; exact ⟨ho, by simp⟩
  | x :: r, o, o', h, ho => by
    simp only [pfold] at h
    cases hp : pstep o x with
    | none => rw [hp] at h; cases h
    | some o1 =>
      rw [hp] at h
      obtain ⟨h1, h2⟩ := pstep_ok hp ho
      obtain ⟨h3, h4⟩ := pfold_ok h h1
      exact ⟨h3, by simp; omega⟩
theorem pPart_len {l : List UInt8} (h : pPart l = true) : l.length ≤ 20 := by
  simp only [pPart, Bool.and_eq_true, decide_eq_true_eq] at h; exact h.2
theorem splitP_ok {l : List UInt8} {o : List (List UInt8)} (h : splitP l = some o) : (∀ y, y ∈ o → pPart y = true) ∧ o.length ≤ l.length + 2 := by
  obtain ⟨h1, h2⟩ := pfold_ok h (by simp)
  have := split_len l [47]
  exact ⟨h1, by simp at h2; omega⟩
theorem szL_mul {α : Type} (f : α → Nat) (k : Nat) : ∀ (l : List α), (∀ x, x ∈ l → f x ≤ k) → szL f l ≤ k * l.length
  | [], _ => by simp [szL]
  | x :: l, h => by
    have := szL_mul f k l fun y hy => h y (List.mem_cons_of_mem _ hy)
    have hx := h x (List.mem_cons_self ..)
    simp [szL, Nat.mul_add] at this ⊢; omega
theorem join_short {l : List UInt8} {o : List (List UInt8)} (h : splitP l = some o) (i : Nat) : (joinL [47] (o.take i)).length ≤ 22 * (l.length + 2) := by
  obtain ⟨h1, h2⟩ := splitP_ok h
  have h3 := joinL_len (sep := [47]) (by simp) (o.take i)
  have h4 := szL_mul (fun x : List UInt8 => x.length + 2) 22 (o.take i) fun x hx => by have := pPart_len (h1 x (List.mem_of_mem_take hx)); omega
  have h5 : (o.take i).length ≤ o.length := by simp; omega
  have h6 : 22 * (o.take i).length ≤ 22 * (l.length + 2) := Nat.mul_le_mul_left _ (by omega)
  omega

/-! ### a part -/
theorem spec_part {l : List UInt8} (hl : l.length ≤ mx) : Fnc Tryd.prog 154 [.str l] (.bool (l.all pC && inR l.length 1 20)) := by
  refine fn_of c154 (by simp [F154]) fun c => ?_
  unfold F154
  simp
  refine loop_drop l.length (fun i e H c' => e 0 = .str l ∧ e 3 = .int .i64 i ∧ (l.take i).all pC = true ∧ H = []) ⟨rfl, rfl, by simp, rfl⟩ ?_
  intro i e H c hi ⟨e0, e3, ha, hH⟩ N hN
  subst hH
  by_cases h : i < l.length
  · have hb : l[i]? = some l[i] := List.getElem?_eq_getElem h
    have bad : pC l[i] = false → (l.all pC && inR l.length 1 20) = false := fun hb => by
      have : l.all pC = false := by rw [List.all_eq_false]; exact ⟨_, List.getElem_mem h, by simp [hb]⟩
      rw [this]; rfl
    have good : pC l[i] = true → (l.take (i + 1)).all pC = true := fun hx => all_step ha h hx
    have hstep : IntKind.i64.wrap ((i : Int) + 1) = ((i + 1 : Nat) : Int) := by rw [step64 hl h]; rfl
    generalize l[i] = b at hb bad good
    have hLA := isL_A b
    have hpc : pC b = (isL b || isD b || decide (b.toNat = 45) || decide (b.toNat = 46)) := by
      rw [hLA]; unfold pC; cases isA b <;> cases isD b <;> cases decide (b.toNat = 95) <;> rfl
    simp [e0, e3, h, getW_of hb]
    refine call_fn0 (letter_fn b) .bool fun _ _ => ?_
    cases hL : isL b
    · simp [e0, e3, h, getW_of hb]
      refine call_fn0 (digit_fn b) .bool fun _ _ => ?_
      cases hD : isD b
      · by_cases h45 : b.toNat = 45
        · have k45 : (b.toNat : Int) = 45 := by omega
          simp [e0, e3, h, getW_of hb, k45, hstep]
          exact hN _ _ _ _ h (List.Sublist.refl _) ⟨by simp [upd, e0], by simp [upd], good (by simp [hpc, h45]), rfl⟩
        · have k45 : ¬ (b.toNat : Int) = 45 := by omega
          by_cases h46 : b.toNat = 46
          · have k46 : (b.toNat : Int) = 46 := by omega
            simp [e0, e3, h, getW_of hb, k45, k46, hstep]
            exact hN _ _ _ _ h (List.Sublist.refl _) ⟨by simp [upd, e0], by simp [upd], good (by simp [hpc, h46]), rfl⟩
          · have k46 : ¬ (b.toNat : Int) = 46 := by omega
            simp [e0, e3, h, getW_of hb, k45, k46, hstep]
            exact fin_plain ⟨by rw [bad (by simp [hpc, hL, hD, h45, h46])], rfl⟩
      · simp [e0, e3, h, getW_of hb, hstep]
        exact hN _ _ _ _ h (List.Sublist.refl _) ⟨by simp [upd, e0], by simp [upd], good (by simp [hpc, hD]), rfl⟩
    · simp [e0, e3, h, getW_of hb, hstep]
      exact hN _ _ _ _ h (List.Sublist.refl _) ⟨by simp [upd, e0], by simp [upd], good (by simp [hpc, hL]), rfl⟩
  · have h1 : i = l.length := by omega
    subst h1
    rw [List.take_length] at ha
    simp [e0, e3]
    refine call_fn0 (l1In_fn _ _ _) .bool fun _ _ => ?_
    simp
    exact fin_plain ⟨by simp [ha], rfl⟩
theorem impl_part {l : List UInt8} (hl : l.length ≤ mx) : Fnc Tryd.prog 158 [.str l] (.bool (pPart l)) := by
  refine fn_of c158 (by simp [F158]) fun c => ?_
  unfold F158
  simp
  refine loop_drop l.length (fun i e H c' => e 0 = .str l ∧ e 3 = .int .i64 i ∧ (l.take i).all pC = true ∧ H = []) ⟨rfl, rfl, by simp, rfl⟩ ?_
  intro i e H c hi ⟨e0, e3, ha, hH⟩ N hN
  subst hH
  by_cases h : i < l.length
  · have hb : l[i]? = some l[i] := List.getElem?_eq_getElem h
    have bad : pC l[i] = false → pPart l = false := fun hb => by
      have : l.all pC = false := by rw [List.all_eq_false]; exact ⟨_, List.getElem_mem h, by simp [hb]⟩
      unfold pPart; rw [this]; rfl
    have good : pC l[i] = true → (l.take (i + 1)).all pC = true := fun hx => all_step ha h hx
    have hstep : IntKind.i64.wrap ((i : Int) + 1) = ((i + 1 : Nat) : Int) := by rw [step64 hl h]; rfl
    generalize l[i] = b at hb bad good
    simp [e0, e3, h, getW_of hb]
    refine call_fn0 (isLetter_fn b) .bool fun _ _ => ?_
    cases hL : isA b
    · simp [e0, e3, h, getW_of hb]
      refine call_fn0 (isDigit_fn b) .bool fun _ _ => ?_
      cases hD : isD b
      · by_cases h95 : b.toNat = 95
        · have k95 : (b.toNat : Int) = 95 := by omega
          simp [e0, e3, h, getW_of hb, k95, hstep]
          exact hN _ _ _ _ h (List.Sublist.refl _) ⟨by simp [upd, e0], by simp [upd], good (by simp [pC, h95]), rfl⟩
        have k95 : ¬ (b.toNat : Int) = 95 := by omega
        by_cases h45 : b.toNat = 45
        · have k45 : (b.toNat : Int) = 45 := by omega
          simp [e0, e3, h, getW_of hb, k45, k95, hstep]
          exact hN _ _ _ _ h (List.Sublist.refl _) ⟨by simp [upd, e0], by simp [upd], good (by simp [pC, h45]), rfl⟩
        · have k45 : ¬ (b.toNat : Int) = 45 := by omega
          by_cases h46 : b.toNat = 46
          · have k46 : (b.toNat : Int) = 46 := by omega
            simp [e0, e3, h, getW_of hb, k45, k46, k95, hstep]
            exact hN _ _ _ _ h (List.Sublist.refl _) ⟨by simp [upd, e0], by simp [upd], good (by simp [pC, h46]), rfl⟩
          · have k46 : ¬ (b.toNat : Int) = 46 := by omega
            simp [e0, e3, h, getW_of hb, k45, k46, k95, hstep]
            exact fin_plain ⟨by rw [bad (by simp [pC, hL, hD, h45, h46, h95])], rfl⟩
      · simp [e0, e3, h, getW_of hb, hstep]
        exact hN _ _ _ _ h (List.Sublist.refl _) ⟨by simp [upd, e0], by simp [upd], good (by simp [pC, hD]), rfl⟩
    · simp [e0, e3, h, getW_of hb, hstep]
      exact hN _ _ _ _ h (List.Sublist.refl _) ⟨by simp [upd, e0], by simp [upd], good (by simp [pC, hL]), rfl⟩
  · have h1 : i = l.length := by omega
    subst h1
    rw [List.take_length] at ha
    have k : ((l.length : Int) ≤ 20) = (l.length ≤ 20) := by simp only [eq_iff_iff]; omega
    simp [e0, e3]
    exact fin_plain ⟨by simp [pPart, ha, k], rfl⟩

/-! ### the parts -/
def SplQ (l : List UInt8) (r : AV) (O : List AObj) : Prop :=
  (splitP l = none ∧ r = .tup [.nsl, .bool false] ∧ O = []) ∨
  ∃ (t : Nat) (rows : List (List AV)), r = .tup [.ref 0 t 1 ((splitP l).getD []).length, .bool (splitP l).isSome] ∧ O = [⟨false, t, 1, rows⟩] ∧ rows.take ((splitP l).getD []).length = ((splitP l).getD []).map encS
theorem cut_le {rows : List (List AV)} {o : List (List UInt8)} (h : rows.take o.length = o.map encS) : o.length ≤ rows.length := by
  have := congrArg List.length h
  simp at this; omega
theorem cut_view {i t : Nat} {rows : List (List AV)} {o : List (List UInt8)} {S : List AObj} (h : rows.take o.length = o.map encS) (hS : (⟨false, t, 1, rows⟩ : AObj) ∈ S) : View S (.ref i t 1 o.length) ((SL.mk t o).av 1 encS) := by
  have hx : ∀ (r : Nat) (x' : List AV), (o.map encS)[r]? = some x' → rows[r]? = some x' := fun r x' hr => by
    have hlt : r < o.length := by have := (List.getElem?_eq_some_iff.1 hr).1; simpa using this
    rw [← h, List.getElem?_take_of_lt hlt] at hr; exact hr
  refine .ref hS (cut_le h) (by simp) (fun r x x' h1 h2 => ?_) (fun r j x a h1 h2 => ?_) fun r j x x' a a' h1 h2 h3 h4 => ?_
  · rw [hx r x' h2] at h1; cases h1; rfl
  · obtain ⟨y, _, rfl⟩ := List.mem_map.1 (List.mem_of_getElem? h1)
    exact (encS_flat y a (List.mem_of_getElem? h2)).1
  · rw [hx r x' h2] at h1; cases h1; rw [h3] at h4; cases h4; exact .refl _
theorem cut_last {rows : List (List AV)} {o : List (List UInt8)} (h : rows.take o.length = o.map encS) : rows.take o.dropLast.length = o.dropLast.map encS := by
  rw [List.length_dropLast, List.dropLast_eq_take, List.map_take, ← h, List.take_take]
  congr 1; omega
theorem spl_tr {f : Nat} {l : List UInt8} (h : ∀ c, Con Tryd.prog f [.str l] [] c fun r O _ => SplQ l r O) :
    Tr Tryd.prog f [.str l] fun _ r => ∃ b : SL (List UInt8), r = .tup [b.av 1 encS, .bool (splitP l).isSome] ∧ b.list = (splitP l).getD [] :=
  tr_of h fun c r O c' _ hq ht => by
    rcases hq with ⟨h1, h2, h3⟩ | ⟨t, rows, h2, h3, h4⟩
    · exact ⟨.tup [.nsl, .bool false], by rw [h2]; exact .refl _, ⟨.nil, by rw [h1]; rfl, by rw [h1]; rfl⟩, from_tup (by simp)⟩
    · refine ⟨.tup [(SL.mk t ((splitP l).getD [])).av 1 encS, .bool (splitP l).isSome], by rw [h2]; exact view_tup (.cons (cut_view h4 (by rw [h3]; simp)) (Views.refl _ _)), ⟨_, rfl, rfl⟩, from_tup fun a ha => ?_⟩
      rcases List.mem_cons.1 ha with rfl | ha
      · refine flat_from encS_flat fun u hu => ht u ?_
        rw [flat_wood] at hu
        rw [h3]; simpa [tags] using hu
      · simp at ha; subst ha; simp
theorem spec_splitP {l : List UInt8} (hl : l.length ≤ 1048576) (c : Nat) : Con Tryd.prog 127 [.str l] [] c fun r O _ => SplQ l r O := by
  refine con_of c127 (by simp [F127]) ?_
  unfold F127
  simp
  refine loop_drop (l.length + 1) (fun i e H c' => e 0 = .str l ∧ e 6 = .int .i64 i ∧ ∃ (a : Nat) (o : List (List UInt8)) (t : Nat) (rows : List (List AV)), e 5 = .int .i64 a ∧ e 4 = .ref 0 t 1 o.length ∧ H = [⟨false, t, 1, rows⟩] ∧ rows.take o.length = o.map encS ∧ o.length ≤ i ∧
      (i ≤ l.length → a ≤ i ∧ (∀ j, a ≤ j → j < i → Lib.occAt l [47] j = false) ∧ splitP l = pfold o (Lib.split (l.drop a) [47])) ∧ (l.length < i → splitP l = some o)) ?_ ?_
  · exact ⟨rfl, rfl, 0, [], c, [], rfl, rfl, rfl, rfl, by simp, fun _ => ⟨by omega, fun j h1 h2 => by omega, by simp [splitP]⟩, fun h => by omega⟩
  intro i e H c' hi ⟨e0, e6, a, o, t, rows, e5, e4, hH, hrows, hoi, hinv, hend⟩ N hN
  subst hH
  have hcl := cut_le hrows
  have hm1 : (o.length + 1) * 16 ≤ 140737488355328 := by omega
  have hm2 : o.length + 1 ≤ mx := by unfold mx; omega
  by_cases hle : i ≤ l.length
  case neg =>
    have ho := hend (by omega)
    simp [e0, e4, e6, hle]
    exact fin_all (.inr ⟨t, rows, by simp [ho], rfl, by simp [ho, hrows]⟩)
  obtain ⟨ha, hno, hsp⟩ := hinv hle
  have hstep : IntKind.i64.wrap ((i : Int) + 1) = ((i + 1 : Nat) : Int) := by rw [wrap64 (by omega) (by omega)]; rfl
  by_cases hA : i < l.length ∧ l[i]? ≠ some 47
  · obtain ⟨h, hx⟩ := hA
    have hb : l[i]? = some l[i] := List.getElem?_eq_getElem h
    generalize l[i] = b at hb
    have hb47 : ¬ (b.toNat : Int) = 47 := fun e => hx (by rw [hb]; congr 1; exact UInt8.toNat_inj.1 (by have : (47 : UInt8).toNat = 47 := rfl; omega))
    simp [e0, e6, hle, h, getW_of hb, hb47, hstep]
    refine hN _ _ _ _ (by omega) (List.Sublist.refl _) ⟨by simp [upd, e0], by simp [upd], a, o, t, rows, by simp [upd, e5], by simp [upd, e4], rfl, hrows, by omega, fun _ => ⟨by omega, fun j h1 h2 => ?_, hsp⟩, fun h2 => by omega⟩
    rcases Nat.lt_or_ge j i with h3 | h3
    · exact hno j h1 h3
    · have : j = i := by omega
      subst this; rw [occ_one]; simp [hx]
  have hocc : i < l.length → l[i]? = some 47 := fun h => Classical.byContradiction fun hx => hA ⟨h, hx⟩
  obtain ⟨x, hx⟩ : ∃ x, (l.take i).drop a = x := ⟨_, rfl⟩
  obtain ⟨R, hR⟩ : ∃ R, (if i < l.length then Lib.split (l.drop (i + 1)) [47] else []) = R := ⟨_, rfl⟩
  have hcons : Lib.split (l.drop a) [47] = x :: R := by
    rw [← hx, ← hR]
    by_cases h : i < l.length
    · rw [if_pos h]
      exact split_at (by simp) ha hle hno (by rw [occ_one]; simp [hocc h])
    · have hie : i = l.length := by omega
      subst hie
      rw [if_neg h, List.take_length]; exact split_end (by simp) hno
  rw [hcons] at hsp
  simp only [pfold] at hsp
  have hxl : x.length ≤ mx := by rw [← hx]; simp; unfold mx; omega
  have next : ∀ (o' : List (List UInt8)), pstep o x = some o' → (i + 1 ≤ l.length → i + 1 ≤ i + 1 ∧ (∀ j, i + 1 ≤ j → j < i + 1 → Lib.occAt l [47] j = false) ∧ splitP l = pfold o' (Lib.split (l.drop (i + 1)) [47])) ∧ (l.length < i + 1 → splitP l = some o') := fun o' ho' => by
    rw [ho'] at hsp
    simp only [Option.bind_some] at hsp
    refine ⟨fun h2 => ⟨Nat.le_refl _, fun j h3 h4 => by omega, ?_⟩, fun h2 => ?_⟩
    · rw [hsp, ← hR, if_pos (by omega)]
    · rw [hsp, ← hR, if_neg (by omega)]; rfl
  have fails : pstep o x = none → splitP l = none := fun h => by rw [hsp, h]; rfl
  have hsl : ∀ K : AV → Prop, strSliceW (.str l) (some (.int .i64 a)) (some (.int .i64 i)) K = K (.str x) := fun K => by rw [← hx]; simp [ha, hle]
  rcases Nat.lt_or_ge i l.length with h | h
  focus
    simp [e0, e5, e6, hle, h, getW_of (hocc h), hstep, hsl, -strSliceW_str]
  rotate_left
  focus
    have h' : ¬ i < l.length := by omega
    simp [e0, e5, e6, hle, h', hstep, hsl, -strSliceW_str]
  rotate_left
  all_goals
    by_cases x0 : x = []
    · have hp : pstep o x = some o := by simp [pstep, x0]
      obtain ⟨n1, n2⟩ := next o hp
      simp [x0, e6, hstep]
      exact hN _ _ _ _ (by omega) (List.Sublist.refl _) ⟨by simp [upd, e0], by simp [upd], i + 1, o, t, rows, by simp [upd], by simp [upd, e4], rfl, hrows, by omega, n1, n2⟩
    by_cases x1 : x = [46]
    · have hp : pstep o x = some o := by simp [pstep, x1]
      obtain ⟨n1, n2⟩ := next o hp
      simp [x1, e6, hstep]
      exact hN _ _ _ _ (by omega) (List.Sublist.refl _) ⟨by simp [upd, e0], by simp [upd], i + 1, o, t, rows, by simp [upd], by simp [upd, e4], rfl, hrows, by omega, n1, n2⟩
    by_cases x2 : x = [46, 46]
    · by_cases o0 : o = []
      · have hp := fails (by simp [pstep, x2, o0])
        simp [x2, e4, o0]
        exact fin_sub (Hk := [⟨false, _, 1, []⟩]) ((List.Sublist.refl _).cons _) (view_tup (.cons .name (Views.refl _ _))) (.inr ⟨_, [], by rw [hp]; rfl, rfl, by rw [hp]; rfl⟩)
      · have hp : pstep o x = some o.dropLast := by simp [pstep, x2, o0]
        obtain ⟨n1, n2⟩ := next _ hp
        have hol : 0 < o.length := List.length_pos_iff.2 o0
        have hw : IntKind.i64.wrap ((o.length : Int) - 1) = ((o.length - 1 : Nat) : Int) := by rw [wrap64 (by omega) (by omega)]; omega
        have hol' : ¬ ((o.length : Int) = 0) := by omega
        simp [x2, e4, e6, o0, hw, hstep]
        exact hN _ _ _ _ (by omega) (List.Sublist.refl _) ⟨by simp [upd, e0], by simp [upd], i + 1, o.dropLast, t, rows, by simp [upd], by simp [upd], rfl, cut_last hrows, by simp; omega, n1, n2⟩
    simp [x0, x1, x2]
    refine call_fn0 (spec_part hxl) .bool fun _ _ => ?_
    have hlen : 0 < x.length := List.length_pos_iff.2 x0
    have hpp : (x.all pC && inR x.length 1 20) = pPart x := by
      unfold pPart inR
      have : ((1 : Int) ≤ x.length) := by omega
      have k : ((x.length : Int) ≤ 20) = (x.length ≤ 20) := by simp only [eq_iff_iff]; omega
      simp [this, k]
    rw [hpp]
    cases hP : pPart x
    · have hp := fails (by simp [pstep, x0, x1, x2, hP])
      simp
      exact fin_sub (Hk := [⟨false, _, 1, []⟩]) ((List.Sublist.refl _).cons _) (view_tup (.cons .name (Views.refl _ _))) (.inr ⟨_, [], by rw [hp]; rfl, rfl, by rw [hp]; rfl⟩)
    · have hp : pstep o x = some (o ++ [x]) := by simp [pstep, x0, x1, x2, hP]
      obtain ⟨n1, n2⟩ := next _ hp
      simp [e4, e6, hm1, hm2, cutW, hcl, hrows, hstep]
      exact hN _ _ _ _ (by omega) (sub_one _ _) ⟨by simp [upd, e0], by simp [upd], i + 1, o ++ [x], _, _, by simp [upd], by simp [upd] <;> rfl, rfl, by rw [List.map_append]; exact List.take_of_length_le (by simp), by simp; omega, n1, n2⟩
theorem impl_splitP {l : List UInt8} (hl : l.length ≤ 1048576) (c : Nat) : Con Tryd.prog 131 [.str l] [] c fun r O _ => SplQ l r O := by
  refine con_of c131 (by simp [F131]) ?_
  unfold F131
  simp
  refine call_tree0 (split_tr (by omega) (by simp)) fun r _ hc1 ⟨b, e1, q1⟩ _ => ?_
  subst e1
  simp
  have hpl := split_len l [47]
  have hpm := fun x => split_mem (l := l) (sep := [47]) (x := x)
  have hspl : splitP l = pfold [] b.list := by unfold splitP; rw [q1]
  rw [← q1] at hpl hpm
  refine loop_drop b.list.length (fun i e H c' => e 9 = b.av 1 encS ∧ e 10 = .int .i64 b.list.length ∧ e 11 = .int .i64 i ∧ ∃ (o : List (List UInt8)) (t : Nat) (rows : List (List AV)), e 4 = .ref 0 t 1 o.length ∧ H = [⟨false, t, 1, rows⟩] ∧ rows.take o.length = o.map encS ∧ o.length ≤ i ∧ splitP l = pfold o (b.list.drop i)) ?_ ?_
  · exact ⟨rfl, rfl, rfl, [], c, [], rfl, rfl, rfl, by simp, by simpa using hspl⟩
  intro i e H c' hi ⟨e9, e10, e11, o, t, rows, e4, hH, hrows, hoi, hsp⟩ N hN
  subst hH
  have hcl := cut_le hrows
  have hm1 : (o.length + 1) * 16 ≤ 140737488355328 := by omega
  have hm2 : o.length + 1 ≤ mx := by unfold mx; omega
  by_cases h : i < b.list.length
  case neg =>
    have hie : i = b.list.length := by omega
    subst hie
    rw [List.drop_length] at hsp
    have ho : splitP l = some o := hsp
    simp [e4, e9, e10, e11]
    exact fin_all (.inr ⟨t, rows, by simp [ho], rfl, by simp [ho, hrows]⟩)
  have hg : b.list[i]? = some b.list[i] := List.getElem?_eq_getElem h
  have hstep : IntKind.i64.wrap ((i : Int) + 1) = ((i + 1 : Nat) : Int) := by rw [step64 (by unfold mx; omega) h]; rfl
  have hxl := hpm _ (List.getElem_mem h)
  rw [List.drop_eq_getElem_cons h] at hsp
  simp only [pfold] at hsp
  generalize b.list[i] = x at hg hxl hsp
  have hxm : x.length ≤ mx := by unfold mx; omega
  have next : ∀ (o' : List (List UInt8)), pstep o x = some o' → splitP l = pfold o' (b.list.drop (i + 1)) := fun o' ho' => by
    rw [ho'] at hsp; exact hsp
  have fails : pstep o x = none → splitP l = none := fun h => by rw [hsp, h]; rfl
  simp [e9, e10, e11, h, getW_of hg]
  by_cases x0 : x = []
  · have hp : pstep o x = some o := by simp [pstep, x0]
    simp [x0, e11, hstep]
    exact hN _ _ _ _ (by omega) (List.Sublist.refl _) ⟨by simp [upd, e9], by simp [upd, e10], by simp [upd], o, t, rows, by simp [upd, e4], rfl, hrows, by omega, next o hp⟩
  by_cases x1 : x = [46]
  · have hp : pstep o x = some o := by simp [pstep, x1]
    simp [x1, e11, hstep]
    exact hN _ _ _ _ (by omega) (List.Sublist.refl _) ⟨by simp [upd, e9], by simp [upd, e10], by simp [upd], o, t, rows, by simp [upd, e4], rfl, hrows, by omega, next o hp⟩
  by_cases x2 : x = [46, 46]
  · by_cases o0 : o = []
    · have hp := fails (by simp [pstep, x2, o0])
      simp [x2, e4, o0]
      exact fin_sub (List.nil_sublist _) (.refl _) (.inl ⟨hp, rfl, rfl⟩)
    · have hp : pstep o x = some o.dropLast := by simp [pstep, x2, o0]
      have hol : 0 < o.length := List.length_pos_iff.2 o0
      have hw : IntKind.i64.wrap ((o.length : Int) - 1) = ((o.length - 1 : Nat) : Int) := by rw [wrap64 (by omega) (by omega)]; omega
      have hol' : ¬ ((o.length : Int) = 0) := by omega
      simp [x2, e4, e11, o0, hw, hstep]
      exact hN _ _ _ _ (by omega) (List.Sublist.refl _) ⟨by simp [upd, e9], by simp [upd, e10], by simp [upd], o.dropLast, t, rows, by simp [upd], rfl, cut_last hrows, by simp; omega, next _ hp⟩
  simp [x0, x1, x2]
  refine call_fn0 (impl_part hxm) .bool fun _ _ => ?_
  cases hP : pPart x
  · have hp := fails (by simp [pstep, x0, x1, x2, hP])
    simp
    exact fin_sub (List.nil_sublist _) (.refl _) (.inl ⟨hp, rfl, rfl⟩)
  · have hp : pstep o x = some (o ++ [x]) := by simp [pstep, x0, x1, x2, hP]
    simp [e4, e11, hm1, hm2, cutW, hcl, hrows, hstep]
    exact hN _ _ _ _ (by omega) (sub_one _ _) ⟨by simp [upd, e9], by simp [upd, e10], by simp [upd], o ++ [x], _, _, by simp [upd] <;> rfl, rfl, by rw [List.map_append]; exact List.take_of_length_le (by simp), by simp; omega, next _ hp⟩

/-! ### the plain form -/
def normA (l : List UInt8) : List AV := [.str ((normP l).getD []), .bool (normP l).isSome]
theorem free_norm (l : List UInt8) : Free (.tup (normA l)) := free_tup fun a ha => by
  simp [normA] at ha
  rcases ha with rfl | rfl
  · exact free_str _
  · exact free_bool _
theorem joinL_step (l : List (List UInt8)) {i : Nat} (h : i < l.length) : joinL [47] (l.take (i + 1)) = (if 0 < i then joinL [47] (l.take i) ++ [47] else joinL [47] (l.take i)) ++ l[i] := by
  rw [List.take_succ_eq_append_getElem h, joinL_snoc]
  simp only [List.length_take, Nat.min_eq_left (Nat.le_of_lt h)]
  by_cases h0 : 0 < i
  · rw [if_pos h0, if_pos h0]
  · have : i = 0 := by omega
    subst this; simp [joinL_nil]
theorem join_part {l : List UInt8} (i : Nat) : (joinL [47] (((splitP l).getD []).take i)).length ≤ 22 * (l.length + 2) := by
  cases h : splitP l with
  | none => simp [joinL_nil]
  | some o => exact join_short h i
theorem part_len {l x : List UInt8} (h : x ∈ (splitP l).getD []) : x.length ≤ 20 := by
  cases hs : splitP l with
  | none => rw [hs] at h; cases h
  | some o => rw [hs] at h; exact pPart_len ((splitP_ok hs).1 x h)
theorem parts_len (l : List UInt8) : ((splitP l).getD []).length ≤ l.length + 2 := by
  cases hs : splitP l with
  | none => simp
  | some o => exact (splitP_ok hs).2
theorem norm_eq {l : List UInt8} (h : ¬ 400 < l.length) : normP l = if (splitP l).isSome && inR (joinL [47] ((splitP l).getD [])).length 1 60 then some (joinL [47] ((splitP l).getD [])) else none := by
  unfold normP
  rw [if_neg h]
  cases splitP l <;> simp
theorem spec_norm {l : List UInt8} (hl : l.length ≤ mx) : Fnc Tryd.prog 79 [.str l] (.tup (normA l)) := by
  refine fn_of c79 (by simp [F79]) fun c => ?_
  unfold F79
  by_cases h400 : 400 < l.length
  · have k : (400 : Int) < l.length := by omega
    simp [k]
    exact fin_plain ⟨by simp [normA, normP, h400], rfl⟩
  have k : ¬ (400 : Int) < l.length := by omega
  simp [k]
  refine call_tree0 (spl_tr fun c => spec_splitP (by omega) c) fun r _ hc1 ⟨b, e1, q1⟩ _ => ?_
  subst e1
  simp
  have hj := fun i => join_part (l := l) i
  have hpl := parts_len l
  have hpm := fun x => part_len (l := l) (x := x)
  have hne := norm_eq h400
  rw [← q1] at hj hpl hpm hne
  refine loop_drop b.list.length (fun i e H c' => e 4 = b.av 1 encS ∧ e 5 = .bool (splitP l).isSome ∧ e 6 = .str (joinL [47] (b.list.take i)) ∧ e 7 = .int .i64 i ∧ H = []) ⟨rfl, rfl, by simp [upd, joinL_nil], rfl, rfl⟩ ?_
  intro i e H c' hi ⟨e4, e5, e6, e7, hH⟩ N hN
  subst hH
  by_cases h : i < b.list.length
  · have hg : b.list[i]? = some b.list[i] := List.getElem?_eq_getElem h
    have hstep : IntKind.i64.wrap ((i : Int) + 1) = ((i + 1 : Nat) : Int) := by rw [step64 (by unfold mx; omega) h]; rfl
    have hxl := hpm _ (List.getElem_mem h)
    have hjs := joinL_step b.list h
    have hji := hj i
    generalize b.list[i] = x at hg hxl hjs
    generalize joinL [47] (b.list.take i) = J at e6 hjs hji
    by_cases h0 : 0 < i
    · rw [if_pos h0] at hjs
      simp [e4, e6, e7, h, h0, getW_of hg, hstep]
      refine ⟨by unfold mx; omega, by unfold mx; omega, ?_⟩
      exact hN _ _ _ _ h (List.Sublist.refl _) ⟨by simp [upd, e4], by simp [upd, e5], by simp [upd, hjs], by simp [upd], rfl⟩
    · rw [if_neg h0] at hjs
      simp [e4, e6, e7, h, h0, getW_of hg, hstep]
      refine ⟨by unfold mx; omega, ?_⟩
      exact hN _ _ _ _ h (List.Sublist.refl _) ⟨by simp [upd, e4], by simp [upd, e5], by simp [upd, hjs], by simp [upd], rfl⟩
  · have h1 : i = b.list.length := by omega
    subst h1
    rw [List.take_length] at e6
    generalize joinL [47] b.list = J at e6 hne
    cases hs : (splitP l).isSome
    · rw [hs] at hne e5
      simp at hne
      simp [e4, e5, e6, e7]
      exact fin_plain ⟨by simp [normA, hne], rfl⟩
    · rw [hs] at hne e5
      simp [e4, e5, e6, e7]
      refine call_fn0 (l1In_fn _ _ _) .bool fun _ _ => ?_
      cases hr : inR J.length 1 60
      · rw [hr] at hne
        simp at hne
        simp
        exact fin_plain ⟨by simp [normA, hne], rfl⟩
      · rw [hr] at hne
        simp at hne
        simp [e6]
        exact fin_plain ⟨by simp [normA, hne], rfl⟩
theorem impl_norm {l : List UInt8} (hl : l.length ≤ mx) : Fnc Tryd.prog 84 [.str l] (.tup (normA l)) := by
  refine fn_of c84 (by simp [F84]) fun c => ?_
  unfold F84
  by_cases h400 : 400 < l.length
  · have k : (400 : Int) < l.length := by omega
    simp [k]
    exact fin_plain ⟨by simp [normA, normP, h400], rfl⟩
  have k : ¬ (400 : Int) < l.length := by omega
  simp [k]
  refine call_tree0 (spl_tr fun c => impl_splitP (by omega) c) fun r _ hc1 ⟨b, e1, q1⟩ _ => ?_
  subst e1
  simp
  have hj := join_part (l := l) ((splitP l).getD []).length
  have hpl := parts_len l
  have hne := norm_eq h400
  rw [List.take_length] at hj
  rw [← q1] at hj hpl hne
  have hjn : Fnc Tryd.prog 132 [b.av 1 encS, .str [47]] (.str (joinL [47] b.list)) := by
    cases b with
    | nil => exact join_nil_fn _
    | mk t xs => exact join_fn (by simp at hj ⊢; omega) (by simp at hpl ⊢; omega)
  refine call_fn0 hjn .str fun _ _ => ?_
  generalize joinL [47] b.list = J at hne
  cases hs : (splitP l).isSome
  · rw [hs] at hne
    simp at hne
    simp
    exact fin_plain ⟨by simp [normA, hne], rfl⟩
  · rw [hs] at hne
    simp
    refine call_fn0 (inRange_fn _ _ _) .bool fun _ _ => ?_
    cases hr : inR J.length 1 60
    · rw [hr] at hne
      simp at hne
      simp
      exact fin_plain ⟨by simp [normA, hne], rfl⟩
    · rw [hr] at hne
      simp at hne
      simp
      exact fin_plain ⟨by simp [normA, hne], rfl⟩
theorem isN_norm (l : List UInt8) : isN l = ((normP l).isSome && decide ((normP l).getD [] = l)) := by
  unfold isN
  cases normP l <;> simp
theorem spec_isN {l : List UInt8} (hl : l.length ≤ mx) : Fnc Tryd.prog 68 [.str l] (.bool (isN l)) := by
  refine fn_of c68 (by simp [F68]) fun c => ?_
  unfold F68
  simp
  refine call_fn0 (spec_norm hl) (free_norm _ _) fun _ _ => ?_
  rw [isN_norm]
  cases h : (normP l).isSome <;> simp [normA, h]
  · exact fin_plain ⟨rfl, rfl⟩
  · exact fin_plain ⟨rfl, rfl⟩
theorem impl_isN {l : List UInt8} (hl : l.length ≤ mx) : Fnc Tryd.prog 71 [.str l] (.bool (isN l)) := by
  refine fn_of c71 (by simp [F71]) fun c => ?_
  unfold F71
  simp
  refine call_fn0 (impl_norm hl) (free_norm _ _) fun _ _ => ?_
  rw [isN_norm]
  cases h : (normP l).isSome <;> simp [normA, h]
  · exact fin_plain ⟨rfl, rfl⟩
  · exact fin_plain ⟨rfl, rfl⟩
end A
end Go.Proofs.YtfcimcoanlgldaaDoor

/-
  The types that the laws of this seat speak of, and the helpers over them: printed by a program (wip/tools/gen.py). No condition.
-/


namespace Go.Proofs.YtfcimcoanlgldaaDoor
namespace A
set_option linter.unusedVariables false
set_option linter.unusedSimpArgs false
set_option maxRecDepth 100000

structure TFile where
  Path : List UInt8
  Source : List UInt8
  Version : Int
def TFile.enc (s : TFile) : List AV := [.str s.Path, .str s.Source, .int .i64 s.Version]
@[simp] theorem TFile.len (s : TFile) : s.enc.length = 3 := (rfl)
@[simp] theorem TFile.all (s : TFile) : s.enc.take 3 = s.enc := (rfl)
@[simp] theorem TFile.g0 (s : TFile) (K : AV → Prop) : getW s.enc 0 K = K (.str s.Path) := by simp [TFile.enc]
@[simp] theorem TFile.g1 (s : TFile) (K : AV → Prop) : getW s.enc 1 K = K (.str s.Source) := by simp [TFile.enc]
@[simp] theorem TFile.g2 (s : TFile) (K : AV → Prop) : getW s.enc 2 K = K (.int .i64 s.Version) := by simp [TFile.enc]
theorem TFile.cells (s : TFile) : ∀ a, a ∈ s.enc → a.cell = true := by simp [TFile.enc]
def TFile.sz (s : TFile) : Nat := s.Path.length + s.Source.length
def TFile.ok (s : TFile) : Prop := s.Path.length ≤ mx ∧ s.Source.length ≤ mx
def TFile.con (s : TFile) : TFile := s
theorem TFile.sz_con (s : TFile) : s.con.sz = s.sz := rfl
theorem TFile.sh : ∀ (n : Nat) (row : List AV), ShC Tryd.prog n 88 row → ∃ s : TFile, row = s.enc ∧ s.ok := by
  intro n row h
  obtain ⟨m, hl, hf⟩ := sh_fields (l := [(9, 0), (9, 1), (3, 2)]) (by kernel_rfl) h
  have hl' : row.length = 3 := hl.trans (by kernel_rfl)
  match row, hl' with
  | [x0, x1, x2], _ =>
    have h0 := hf (9, 0) (by simp)
    rw [show Tryd.prog.cellsOf 9 = 1 by kernel_rfl] at h0
    obtain ⟨v0, rfl, k0⟩ := sh_str (t := 9) (by kernel_rfl) (show ShC Tryd.prog m 9 [x0] from h0)
    have h1 := hf (9, 1) (by simp)
    rw [show Tryd.prog.cellsOf 9 = 1 by kernel_rfl] at h1
    obtain ⟨v1, rfl, k1⟩ := sh_str (t := 9) (by kernel_rfl) (show ShC Tryd.prog m 9 [x1] from h1)
    have h2 := hf (3, 2) (by simp)
    rw [show Tryd.prog.cellsOf 3 = 1 by kernel_rfl] at h2
    obtain ⟨v2, rfl, _⟩ := sh_int (k := .i64) (t := 3) (by kernel_rfl) (show ShC Tryd.prog m 3 [x2] from h2)
    exact ⟨⟨v0, v1, v2⟩, rfl, ⟨k0, k1⟩⟩
theorem TFile.sz_fn {s : TFile} (hs : s.ok) {left : Int} (hl : Room left) : Fnc Tryd.prog 62 [.agg s.enc, .int .i64 left] (.int .i64 (szOf s.sz left)) := by
  unfold TFile.ok at hs
  have hr := hl.2
  refine fn_of c62 (by simp [F62]) fun c => ?_
  unfold F62
  simp
  rw [szOf_wrap hs.1 hl]
  refine ⟨fun h => fin_plain ⟨by rw [szOf_neg (by simp only [TFile.sz]; omega)], rfl⟩, fun h => ?_⟩
  rw [szOf_wrap hs.2 ⟨by omega, by omega⟩]
  refine ⟨fun h => fin_plain ⟨by rw [szOf_neg (by simp only [TFile.sz]; omega)], rfl⟩, fun h => ?_⟩
  have hz : s.sz = s.Path.length + s.Source.length := rfl
  have e : szOf s.sz left = left - (s.Path.length : Int) - (s.Source.length : Int) := by
    unfold szOf
    rw [if_pos (by omega)]
    omega
  exact fin_plain ⟨by rw [e], rfl⟩
theorem TFile.to_fn {s : TFile} (h : s.sz ≤ 1048576) : Tr Tryd.prog 64 [.agg s.enc] fun _ r => ∃ b : TFile, r = .agg b.enc ∧ b.con = s.con := by
  simp only [TFile.sz] at h
  intro c
  refine con_of c64 (by simp [F64]) ?_
  unfold F64
  simp [putA]
  refine fin_plain ⟨rfl, ⟨⟨s.Path, s.Source, s.Version⟩, rfl, ?_⟩, from_agg ?_⟩
  · rfl
  · simp
theorem TFile.eq_fn {a b : TFile} (h : a.sz ≤ 1099511627776) (he : a.con = b.con) : Fnc Tryd.prog 66 [.agg a.enc, .agg b.enc] (.bool true) := by
  simp only [TFile.sz] at h
  have e0 : a.Path = b.Path := (congrArg TFile.Path he : a.con.Path = b.con.Path)
  have e1 : a.Source = b.Source := (congrArg TFile.Source he : a.con.Source = b.con.Source)
  have e2 : a.Version = b.Version := (congrArg TFile.Version he : a.con.Version = b.con.Version)
  refine fn_of c66 (by simp [F66]) fun c => ?_
  unfold F66
  simp [e0, e1, e2]
  exact fin_plain ⟨rfl, rfl⟩
def szFileS (s : SL TFile) : Nat := s.list.length + szL TFile.sz s.list
def okFileS (s : SL TFile) : Prop := s.list.length ≤ mx ∧ ∀ x, x ∈ s.list → TFile.ok x
theorem szFileS_con {s t : SL TFile} (h : s.list.map TFile.con = t.list.map TFile.con) : szFileS s = szFileS t := by
  unfold szFileS
  rw [← szL_map (con := TFile.con) TFile.sz_con s.list, ← szL_map (con := TFile.con) TFile.sz_con t.list, h]
  have := congrArg List.length h; simp at this; rw [this]
theorem shFileS {n : Nat} {a : AV} (h : ShC Tryd.prog n 39 [a]) : ∃ s : SL TFile, a = s.av 3 TFile.enc ∧ okFileS s := by
  obtain ⟨s, h1, h2, h3⟩ := sh_slc (P := Tryd.prog) (t := 39) (el := 88) (w := 3) (enc := TFile.enc) (ok := TFile.ok) (by kernel_rfl) (by kernel_rfl) (TFile.sh) h
  exact ⟨s, h1, h2, h3⟩
theorem szFileS_fn {s : SL TFile} (hs : okFileS s) {left : Int} (hl : Room left) : Fnc Tryd.prog 24 [s.av 3 TFile.enc, .int .i64 left] (.int .i64 (szOf (szFileS s) left)) :=
  szS_fn (g := 62) c24 (fun _ => rfl) hs.1 hl fun x hx left hl => TFile.sz_fn (hs.2 x hx) hl
theorem toFileS_fn {s : SL TFile} (h : szFileS s ≤ 1048576) : Tr Tryd.prog 26 [s.av 3 TFile.enc] fun _ r => ∃ b : SL TFile, r = b.av 3 TFile.enc ∧ b.list.map TFile.con = s.list.map TFile.con := by
  unfold szFileS at h
  exact toS_fn (g := 64) (z := [.str [], .str [], .int .i64 0]) (bytes := 40) c26 rfl (fun _ => rfl) (fun x => TFile.cells x) (by omega) (by omega) fun x hx => TFile.to_fn (by have := szL_mem (sz := TFile.sz) hx; omega)
theorem eqFileS_fn {s t : SL TFile} (h : szFileS s ≤ 1099511627776) (he : s.list.map TFile.con = t.list.map TFile.con) : Fnc Tryd.prog 28 [s.av 3 TFile.enc, t.av 3 TFile.enc] (.bool true) := by
  unfold szFileS at h
  exact eqS_fn (g := 66) (con := TFile.con) c28 (fun _ => rfl) (by unfold mx; omega) he fun x hx y hxy => TFile.eq_fn (by have := szL_mem (sz := TFile.sz) hx; omega) hxy
def szIntS (s : SL Int) : Nat := s.list.length
def okIntS (s : SL Int) : Prop := s.list.length ≤ mx ∧ ∀ x, x ∈ s.list → IOk .i64 x
theorem shIntS {n : Nat} {a : AV} (h : ShC Tryd.prog n 148 [a]) : ∃ s : SL Int, a = s.av 1 encI ∧ okIntS s := by
  obtain ⟨s, h1, h2, h3⟩ := sh_slc (P := Tryd.prog) (t := 148) (el := 3) (w := 1) (enc := encI) (ok := fun x => IOk .i64 x) (by kernel_rfl) (by kernel_rfl) (fun n row h => by obtain ⟨i, h1, h2⟩ := sh_int1 (k := .i64) (P := Tryd.prog) (t := 3) (by kernel_rfl) h; exact ⟨i, h1, h2⟩) h
  exact ⟨s, h1, h2, h3⟩
theorem eqIntS_fn {s t : SL Int} (h : szIntS s ≤ 1099511627776) (he : s.list = t.list) : Fnc Tryd.prog 166 [s.av 1 encI, t.av 1 encI] (.bool true) := by
  unfold szIntS at h
  exact eqP_fn (v := fun n => .int .i64 n) c166 (fun x K => by simp) (by unfold mx; omega) he
structure TLine where
  Seq : Int
  Owner : Int
  Version : Int
  Words : SL Int
def TLine.enc (s : TLine) : List AV := [.int .i64 s.Seq, .int .i64 s.Owner, .int .i64 s.Version, s.Words.av 1 encI]
@[simp] theorem TLine.len (s : TLine) : s.enc.length = 4 := (rfl)
@[simp] theorem TLine.all (s : TLine) : s.enc.take 4 = s.enc := (rfl)
@[simp] theorem TLine.g0 (s : TLine) (K : AV → Prop) : getW s.enc 0 K = K (.int .i64 s.Seq) := by simp [TLine.enc]
@[simp] theorem TLine.g1 (s : TLine) (K : AV → Prop) : getW s.enc 1 K = K (.int .i64 s.Owner) := by simp [TLine.enc]
@[simp] theorem TLine.g2 (s : TLine) (K : AV → Prop) : getW s.enc 2 K = K (.int .i64 s.Version) := by simp [TLine.enc]
@[simp] theorem TLine.g3 (s : TLine) (K : AV → Prop) : getW s.enc 3 K = K (s.Words.av 1 encI) := by simp [TLine.enc]
theorem TLine.cells (s : TLine) : ∀ a, a ∈ s.enc → a.cell = true := by simp [TLine.enc]
def TLine.sz (s : TLine) : Nat := (szIntS s.Words)
def TLine.ok (s : TLine) : Prop := okIntS s.Words
def TLine.con (s : TLine) : TLine := { s with Words := s.Words.pcon }
theorem TLine.sz_con (s : TLine) : s.con.sz = s.sz := by
  simp [TLine.sz, TLine.con, szIntS]
theorem TLine.eq_fn {a b : TLine} (h : a.sz ≤ 1099511627776) (he : a.con = b.con) : Fnc Tryd.prog 136 [.agg a.enc, .agg b.enc] (.bool true) := by
  simp only [TLine.sz] at h
  have e0 : a.Seq = b.Seq := (congrArg TLine.Seq he : a.con.Seq = b.con.Seq)
  have e1 : a.Owner = b.Owner := (congrArg TLine.Owner he : a.con.Owner = b.con.Owner)
  have e2 : a.Version = b.Version := (congrArg TLine.Version he : a.con.Version = b.con.Version)
  have e3 : a.Words.list = b.Words.list := congrArg (fun s => s.Words.list) he
  refine fn_of c136 (by simp [F136]) fun c => ?_
  unfold F136
  simp [e0, e1, e2]
  refine call_fn0 (eqIntS_fn (by omega) e3) .bool fun _ _ => ?_
  simp [e0, e1, e2]
  exact fin_plain ⟨rfl, rfl⟩
def szLineS (s : SL TLine) : Nat := s.list.length + szL TLine.sz s.list
def okLineS (s : SL TLine) : Prop := s.list.length ≤ mx ∧ ∀ x, x ∈ s.list → TLine.ok x
theorem szLineS_con {s t : SL TLine} (h : s.list.map TLine.con = t.list.map TLine.con) : szLineS s = szLineS t := by
  unfold szLineS
  rw [← szL_map (con := TLine.con) TLine.sz_con s.list, ← szL_map (con := TLine.con) TLine.sz_con t.list, h]
  have := congrArg List.length h; simp at this; rw [this]
theorem eqLineS_fn {s t : SL TLine} (h : szLineS s ≤ 1099511627776) (he : s.list.map TLine.con = t.list.map TLine.con) : Fnc Tryd.prog 96 [s.av 4 TLine.enc, t.av 4 TLine.enc] (.bool true) := by
  unfold szLineS at h
  exact eqS_fn (g := 136) (con := TLine.con) c96 (fun _ => rfl) (by unfold mx; omega) he fun x hx y hxy => TLine.eq_fn (by have := szL_mem (sz := TLine.sz) hx; omega) hxy
structure TSession where
  Id : List UInt8
  Data : List UInt8
  Holder : Int
  At : Int
def TSession.enc (s : TSession) : List AV := [.str s.Id, .str s.Data, .int .i64 s.Holder, .int .i64 s.At]
@[simp] theorem TSession.len (s : TSession) : s.enc.length = 4 := (rfl)
@[simp] theorem TSession.all (s : TSession) : s.enc.take 4 = s.enc := (rfl)
@[simp] theorem TSession.g0 (s : TSession) (K : AV → Prop) : getW s.enc 0 K = K (.str s.Id) := by simp [TSession.enc]
@[simp] theorem TSession.g1 (s : TSession) (K : AV → Prop) : getW s.enc 1 K = K (.str s.Data) := by simp [TSession.enc]
@[simp] theorem TSession.g2 (s : TSession) (K : AV → Prop) : getW s.enc 2 K = K (.int .i64 s.Holder) := by simp [TSession.enc]
@[simp] theorem TSession.g3 (s : TSession) (K : AV → Prop) : getW s.enc 3 K = K (.int .i64 s.At) := by simp [TSession.enc]
theorem TSession.cells (s : TSession) : ∀ a, a ∈ s.enc → a.cell = true := by simp [TSession.enc]
def TSession.sz (s : TSession) : Nat := s.Id.length + s.Data.length
def TSession.ok (s : TSession) : Prop := s.Id.length ≤ mx ∧ s.Data.length ≤ mx
def TSession.con (s : TSession) : TSession := s
theorem TSession.sz_con (s : TSession) : s.con.sz = s.sz := rfl
theorem TSession.eq_fn {a b : TSession} (h : a.sz ≤ 1099511627776) (he : a.con = b.con) : Fnc Tryd.prog 137 [.agg a.enc, .agg b.enc] (.bool true) := by
  simp only [TSession.sz] at h
  have e0 : a.Id = b.Id := (congrArg TSession.Id he : a.con.Id = b.con.Id)
  have e1 : a.Data = b.Data := (congrArg TSession.Data he : a.con.Data = b.con.Data)
  have e2 : a.Holder = b.Holder := (congrArg TSession.Holder he : a.con.Holder = b.con.Holder)
  have e3 : a.At = b.At := (congrArg TSession.At he : a.con.At = b.con.At)
  refine fn_of c137 (by simp [F137]) fun c => ?_
  unfold F137
  simp [e0, e1, e2, e3]
  exact fin_plain ⟨rfl, rfl⟩
def szSessionS (s : SL TSession) : Nat := s.list.length + szL TSession.sz s.list
def okSessionS (s : SL TSession) : Prop := s.list.length ≤ mx ∧ ∀ x, x ∈ s.list → TSession.ok x
theorem szSessionS_con {s t : SL TSession} (h : s.list.map TSession.con = t.list.map TSession.con) : szSessionS s = szSessionS t := by
  unfold szSessionS
  rw [← szL_map (con := TSession.con) TSession.sz_con s.list, ← szL_map (con := TSession.con) TSession.sz_con t.list, h]
  have := congrArg List.length h; simp at this; rw [this]
theorem eqSessionS_fn {s t : SL TSession} (h : szSessionS s ≤ 1099511627776) (he : s.list.map TSession.con = t.list.map TSession.con) : Fnc Tryd.prog 97 [s.av 4 TSession.enc, t.av 4 TSession.enc] (.bool true) := by
  unfold szSessionS at h
  exact eqS_fn (g := 137) (con := TSession.con) c97 (fun _ => rfl) (by unfold mx; omega) he fun x hx y hxy => TSession.eq_fn (by have := szL_mem (sz := TSession.sz) hx; omega) hxy
structure TPair where
  Name : List UInt8
  Value : List UInt8
def TPair.enc (s : TPair) : List AV := [.str s.Name, .str s.Value]
@[simp] theorem TPair.len (s : TPair) : s.enc.length = 2 := (rfl)
@[simp] theorem TPair.all (s : TPair) : s.enc.take 2 = s.enc := (rfl)
@[simp] theorem TPair.g0 (s : TPair) (K : AV → Prop) : getW s.enc 0 K = K (.str s.Name) := by simp [TPair.enc]
@[simp] theorem TPair.g1 (s : TPair) (K : AV → Prop) : getW s.enc 1 K = K (.str s.Value) := by simp [TPair.enc]
theorem TPair.cells (s : TPair) : ∀ a, a ∈ s.enc → a.cell = true := by simp [TPair.enc]
def TPair.sz (s : TPair) : Nat := s.Name.length + s.Value.length
def TPair.ok (s : TPair) : Prop := s.Name.length ≤ mx ∧ s.Value.length ≤ mx
def TPair.con (s : TPair) : TPair := s
theorem TPair.sz_con (s : TPair) : s.con.sz = s.sz := rfl
theorem TPair.sh : ∀ (n : Nat) (row : List AV), ShC Tryd.prog n 139 row → ∃ s : TPair, row = s.enc ∧ s.ok := by
  intro n row h
  obtain ⟨m, hl, hf⟩ := sh_fields (l := [(9, 0), (9, 1)]) (by kernel_rfl) h
  have hl' : row.length = 2 := hl.trans (by kernel_rfl)
  match row, hl' with
  | [x0, x1], _ =>
    have h0 := hf (9, 0) (by simp)
    rw [show Tryd.prog.cellsOf 9 = 1 by kernel_rfl] at h0
    obtain ⟨v0, rfl, k0⟩ := sh_str (t := 9) (by kernel_rfl) (show ShC Tryd.prog m 9 [x0] from h0)
    have h1 := hf (9, 1) (by simp)
    rw [show Tryd.prog.cellsOf 9 = 1 by kernel_rfl] at h1
    obtain ⟨v1, rfl, k1⟩ := sh_str (t := 9) (by kernel_rfl) (show ShC Tryd.prog m 9 [x1] from h1)
    exact ⟨⟨v0, v1⟩, rfl, ⟨k0, k1⟩⟩
theorem TPair.sz_fn {s : TPair} (hs : s.ok) {left : Int} (hl : Room left) : Fnc Tryd.prog 123 [.agg s.enc, .int .i64 left] (.int .i64 (szOf s.sz left)) := by
  unfold TPair.ok at hs
  have hr := hl.2
  refine fn_of c123 (by simp [F123]) fun c => ?_
  unfold F123
  simp
  rw [szOf_wrap hs.1 hl]
  refine ⟨fun h => fin_plain ⟨by rw [szOf_neg (by simp only [TPair.sz]; omega)], rfl⟩, fun h => ?_⟩
  rw [szOf_wrap hs.2 ⟨by omega, by omega⟩]
  refine ⟨fun h => fin_plain ⟨by rw [szOf_neg (by simp only [TPair.sz]; omega)], rfl⟩, fun h => ?_⟩
  have hz : s.sz = s.Name.length + s.Value.length := rfl
  have e : szOf s.sz left = left - (s.Name.length : Int) - (s.Value.length : Int) := by
    unfold szOf
    rw [if_pos (by omega)]
    omega
  exact fin_plain ⟨by rw [e], rfl⟩
theorem TPair.to_fn {s : TPair} (h : s.sz ≤ 1048576) : Tr Tryd.prog 124 [.agg s.enc] fun _ r => ∃ b : TPair, r = .agg b.enc ∧ b.con = s.con := by
  simp only [TPair.sz] at h
  intro c
  refine con_of c124 (by simp [F124]) ?_
  unfold F124
  simp [putA]
  refine fin_plain ⟨rfl, ⟨⟨s.Name, s.Value⟩, rfl, ?_⟩, from_agg ?_⟩
  · rfl
  · simp
theorem TPair.eq_fn {a b : TPair} (h : a.sz ≤ 1099511627776) (he : a.con = b.con) : Fnc Tryd.prog 52 [.agg a.enc, .agg b.enc] (.bool true) := by
  simp only [TPair.sz] at h
  have e0 : a.Name = b.Name := (congrArg TPair.Name he : a.con.Name = b.con.Name)
  have e1 : a.Value = b.Value := (congrArg TPair.Value he : a.con.Value = b.con.Value)
  refine fn_of c52 (by simp [F52]) fun c => ?_
  unfold F52
  simp [e0, e1]
  exact fin_plain ⟨rfl, rfl⟩
def szPairS (s : SL TPair) : Nat := s.list.length + szL TPair.sz s.list
def okPairS (s : SL TPair) : Prop := s.list.length ≤ mx ∧ ∀ x, x ∈ s.list → TPair.ok x
theorem szPairS_con {s t : SL TPair} (h : s.list.map TPair.con = t.list.map TPair.con) : szPairS s = szPairS t := by
  unfold szPairS
  rw [← szL_map (con := TPair.con) TPair.sz_con s.list, ← szL_map (con := TPair.con) TPair.sz_con t.list, h]
  have := congrArg List.length h; simp at this; rw [this]
theorem shPairS {n : Nat} {a : AV} (h : ShC Tryd.prog n 46 [a]) : ∃ s : SL TPair, a = s.av 2 TPair.enc ∧ okPairS s := by
  obtain ⟨s, h1, h2, h3⟩ := sh_slc (P := Tryd.prog) (t := 46) (el := 139) (w := 2) (enc := TPair.enc) (ok := TPair.ok) (by kernel_rfl) (by kernel_rfl) (TPair.sh) h
  exact ⟨s, h1, h2, h3⟩
theorem szPairS_fn {s : SL TPair} (hs : okPairS s) {left : Int} (hl : Room left) : Fnc Tryd.prog 67 [s.av 2 TPair.enc, .int .i64 left] (.int .i64 (szOf (szPairS s) left)) :=
  szS_fn (g := 123) c67 (fun _ => rfl) hs.1 hl fun x hx left hl => TPair.sz_fn (hs.2 x hx) hl
theorem toPairS_fn {s : SL TPair} (h : szPairS s ≤ 1048576) : Tr Tryd.prog 70 [s.av 2 TPair.enc] fun _ r => ∃ b : SL TPair, r = b.av 2 TPair.enc ∧ b.list.map TPair.con = s.list.map TPair.con := by
  unfold szPairS at h
  exact toS_fn (g := 124) (z := [.str [], .str []]) (bytes := 32) c70 rfl (fun _ => rfl) (fun x => TPair.cells x) (by omega) (by omega) fun x hx => TPair.to_fn (by have := szL_mem (sz := TPair.sz) hx; omega)
theorem eqPairS_fn {s t : SL TPair} (h : szPairS s ≤ 1099511627776) (he : s.list.map TPair.con = t.list.map TPair.con) : Fnc Tryd.prog 14 [s.av 2 TPair.enc, t.av 2 TPair.enc] (.bool true) := by
  unfold szPairS at h
  exact eqS_fn (g := 52) (con := TPair.con) c14 (fun _ => rfl) (by unfold mx; omega) he fun x hx y hxy => TPair.eq_fn (by have := szL_mem (sz := TPair.sz) hx; omega) hxy
structure TRequest where
  Path : List UInt8
  Query : SL TPair
  Cookies : SL TPair
def TRequest.enc (s : TRequest) : List AV := [.str s.Path, s.Query.av 2 TPair.enc, s.Cookies.av 2 TPair.enc]
@[simp] theorem TRequest.len (s : TRequest) : s.enc.length = 3 := (rfl)
@[simp] theorem TRequest.all (s : TRequest) : s.enc.take 3 = s.enc := (rfl)
@[simp] theorem TRequest.g0 (s : TRequest) (K : AV → Prop) : getW s.enc 0 K = K (.str s.Path) := by simp [TRequest.enc]
@[simp] theorem TRequest.g1 (s : TRequest) (K : AV → Prop) : getW s.enc 1 K = K (s.Query.av 2 TPair.enc) := by simp [TRequest.enc]
@[simp] theorem TRequest.g2 (s : TRequest) (K : AV → Prop) : getW s.enc 2 K = K (s.Cookies.av 2 TPair.enc) := by simp [TRequest.enc]
theorem TRequest.cells (s : TRequest) : ∀ a, a ∈ s.enc → a.cell = true := by simp [TRequest.enc]
def TRequest.sz (s : TRequest) : Nat := s.Path.length + (szPairS s.Query) + (szPairS s.Cookies)
def TRequest.ok (s : TRequest) : Prop := s.Path.length ≤ mx ∧ okPairS s.Query ∧ okPairS s.Cookies
def TRequest.con (s : TRequest) : TRequest := { s with Query := s.Query.con TPair.con, Cookies := s.Cookies.con TPair.con }
theorem TRequest.sz_con (s : TRequest) : s.con.sz = s.sz := by
  simp [TRequest.sz, TRequest.con, szPairS, szPairS, szL_map TPair.sz_con, szL_map TPair.sz_con]
theorem TRequest.sh : ∀ (n : Nat) (row : List AV), ShC Tryd.prog n 48 row → ∃ s : TRequest, row = s.enc ∧ s.ok := by
  intro n row h
  obtain ⟨m, hl, hf⟩ := sh_fields (l := [(9, 0), (46, 1), (46, 2)]) (by kernel_rfl) h
  have hl' : row.length = 3 := hl.trans (by kernel_rfl)
  match row, hl' with
  | [x0, x1, x2], _ =>
    have h0 := hf (9, 0) (by simp)
    rw [show Tryd.prog.cellsOf 9 = 1 by kernel_rfl] at h0
    obtain ⟨v0, rfl, k0⟩ := sh_str (t := 9) (by kernel_rfl) (show ShC Tryd.prog m 9 [x0] from h0)
    have h1 := hf (46, 1) (by simp)
    rw [show Tryd.prog.cellsOf 46 = 1 by kernel_rfl] at h1
    obtain ⟨v1, rfl, k1⟩ := shPairS (show ShC Tryd.prog m 46 [x1] from h1)
    have h2 := hf (46, 2) (by simp)
    rw [show Tryd.prog.cellsOf 46 = 1 by kernel_rfl] at h2
    obtain ⟨v2, rfl, k2⟩ := shPairS (show ShC Tryd.prog m 46 [x2] from h2)
    exact ⟨⟨v0, v1, v2⟩, rfl, ⟨k0, k1, k2⟩⟩
theorem TRequest.sz_fn {s : TRequest} (hs : s.ok) {left : Int} (hl : Room left) : Fnc Tryd.prog 29 [.agg s.enc, .int .i64 left] (.int .i64 (szOf s.sz left)) := by
  unfold TRequest.ok at hs
  have hr := hl.2
  refine fn_of c29 (by simp [F29]) fun c => ?_
  unfold F29
  simp
  rw [szOf_wrap hs.1 hl]
  refine ⟨fun h => fin_plain ⟨by rw [szOf_neg (by simp only [TRequest.sz]; omega)], rfl⟩, fun h => ?_⟩
  refine call_fn0 (szPairS_fn hs.2.1 ⟨by omega, by omega⟩) .int fun _ _ => ?_
  simp
  refine ⟨fun h => fin_plain ⟨by have := szOf_lt h; rw [szOf_neg (by simp only [TRequest.sz]; omega)], rfl⟩, fun h => ?_⟩
  obtain ⟨h1, k1⟩ := szOf_ge h
  rw [h1]
  refine call_fn0 (szPairS_fn hs.2.2 ⟨by omega, by omega⟩) .int fun _ _ => ?_
  simp
  refine ⟨fun h => fin_plain ⟨by have := szOf_lt h; rw [szOf_neg (by simp only [TRequest.sz]; omega)], rfl⟩, fun h => ?_⟩
  obtain ⟨h2, k2⟩ := szOf_ge h
  rw [h2]
  have hz : s.sz = s.Path.length + (szPairS s.Query) + (szPairS s.Cookies) := rfl
  have e : szOf s.sz left = left - (s.Path.length : Int) - ((szPairS s.Query) : Int) - ((szPairS s.Cookies) : Int) := by
    unfold szOf
    rw [if_pos (by omega)]
    omega
  exact fin_plain ⟨by rw [e], rfl⟩
theorem TRequest.to_fn {s : TRequest} (h : s.sz ≤ 1048576) : Tr Tryd.prog 31 [.agg s.enc] fun _ r => ∃ b : TRequest, r = .agg b.enc ∧ b.con = s.con := by
  simp only [TRequest.sz] at h
  intro c
  refine con_of c31 (by simp [F31]) ?_
  unfold F31
  simp [putA]
  refine call_tree0 (toPairS_fn (by omega)) fun r1 c1 hc1 ⟨b1, e1, q1⟩ f1 => ?_
  subst e1
  simp [putA]
  refine call_tree0 (toPairS_fn (by omega)) fun r2 c2 hc2 ⟨b2, e2, q2⟩ f2 => ?_
  subst e2
  simp [putA]
  refine fin_plain ⟨rfl, ⟨⟨s.Path, b1, b2⟩, rfl, ?_⟩, from_agg ?_⟩
  · simp [TRequest.con, SL.con, SL.pcon, q1, q2]
  · simp
    exact ⟨f1.mono (by omega), f2.mono (by omega)⟩
theorem TRequest.eq_fn {a b : TRequest} (h : a.sz ≤ 1099511627776) (he : a.con = b.con) : Fnc Tryd.prog 33 [.agg a.enc, .agg b.enc] (.bool true) := by
  simp only [TRequest.sz] at h
  have e0 : a.Path = b.Path := (congrArg TRequest.Path he : a.con.Path = b.con.Path)
  have e1 : a.Query.list.map TPair.con = b.Query.list.map TPair.con := congrArg (fun s => s.Query.list) he
  have e2 : a.Cookies.list.map TPair.con = b.Cookies.list.map TPair.con := congrArg (fun s => s.Cookies.list) he
  refine fn_of c33 (by simp [F33]) fun c => ?_
  unfold F33
  simp [e0]
  refine call_fn0 (eqPairS_fn (by omega) e1) .bool fun _ _ => ?_
  simp [e0]
  refine call_fn0 (eqPairS_fn (by omega) e2) .bool fun _ _ => ?_
  simp [e0]
  exact fin_plain ⟨rfl, rfl⟩
structure TJob where
  Id : Int
  Request : TRequest
  Session : List UInt8
def TJob.enc (s : TJob) : List AV := [.int .i64 s.Id, .str s.Request.Path, s.Request.Query.av 2 TPair.enc, s.Request.Cookies.av 2 TPair.enc, .str s.Session]
@[simp] theorem TJob.len (s : TJob) : s.enc.length = 5 := (rfl)
@[simp] theorem TJob.all (s : TJob) : s.enc.take 5 = s.enc := (rfl)
@[simp] theorem TJob.g0 (s : TJob) (K : AV → Prop) : getW s.enc 0 K = K (.int .i64 s.Id) := by simp [TJob.enc]
@[simp] theorem TJob.g1 (s : TJob) (K : AV → Prop) : getW s.enc 1 K = K (.str s.Request.Path) := by simp [TJob.enc]
@[simp] theorem TJob.g2 (s : TJob) (K : AV → Prop) : getW s.enc 2 K = K (s.Request.Query.av 2 TPair.enc) := by simp [TJob.enc]
@[simp] theorem TJob.g3 (s : TJob) (K : AV → Prop) : getW s.enc 3 K = K (s.Request.Cookies.av 2 TPair.enc) := by simp [TJob.enc]
@[simp] theorem TJob.g4 (s : TJob) (K : AV → Prop) : getW s.enc 4 K = K (.str s.Session) := by simp [TJob.enc]
@[simp] theorem TJob.seg1 (s : TJob) : (s.enc.drop 1).take 3 = s.Request.enc := (rfl)
theorem TJob.cells (s : TJob) : ∀ a, a ∈ s.enc → a.cell = true := by simp [TJob.enc]
def TJob.sz (s : TJob) : Nat := s.Request.sz + s.Session.length
def TJob.ok (s : TJob) : Prop := s.Request.ok ∧ s.Session.length ≤ mx
def TJob.con (s : TJob) : TJob := { s with Request := s.Request.con }
theorem TJob.sz_con (s : TJob) : s.con.sz = s.sz := by
  simp [TJob.sz, TJob.con, TRequest.sz_con]
theorem TJob.eq_fn {a b : TJob} (h : a.sz ≤ 1099511627776) (he : a.con = b.con) : Fnc Tryd.prog 138 [.agg a.enc, .agg b.enc] (.bool true) := by
  simp only [TJob.sz] at h
  have e0 : a.Id = b.Id := (congrArg TJob.Id he : a.con.Id = b.con.Id)
  have e1 : a.Request.con = b.Request.con := congrArg TJob.Request he
  have e2 : a.Session = b.Session := (congrArg TJob.Session he : a.con.Session = b.con.Session)
  refine fn_of c138 (by simp [F138]) fun c => ?_
  unfold F138
  simp [e0, e2]
  refine call_fn0 (TRequest.eq_fn (by omega) e1) .bool fun _ _ => ?_
  simp [e0, e2]
  exact fin_plain ⟨rfl, rfl⟩
def szJobS (s : SL TJob) : Nat := s.list.length + szL TJob.sz s.list
def okJobS (s : SL TJob) : Prop := s.list.length ≤ mx ∧ ∀ x, x ∈ s.list → TJob.ok x
theorem szJobS_con {s t : SL TJob} (h : s.list.map TJob.con = t.list.map TJob.con) : szJobS s = szJobS t := by
  unfold szJobS
  rw [← szL_map (con := TJob.con) TJob.sz_con s.list, ← szL_map (con := TJob.con) TJob.sz_con t.list, h]
  have := congrArg List.length h; simp at this; rw [this]
theorem eqJobS_fn {s t : SL TJob} (h : szJobS s ≤ 1099511627776) (he : s.list.map TJob.con = t.list.map TJob.con) : Fnc Tryd.prog 98 [s.av 5 TJob.enc, t.av 5 TJob.enc] (.bool true) := by
  unfold szJobS at h
  exact eqS_fn (g := 138) (con := TJob.con) c98 (fun _ => rfl) (by unfold mx; omega) he fun x hx y hxy => TJob.eq_fn (by have := szL_mem (sz := TJob.sz) hx; omega) hxy
structure TWorker where
  State : Int
  Job : TJob
  Data : List UInt8
  Files : SL TFile
  Served : Int
def TWorker.enc (s : TWorker) : List AV := [.int .i64 s.State, .int .i64 s.Job.Id, .str s.Job.Request.Path, s.Job.Request.Query.av 2 TPair.enc, s.Job.Request.Cookies.av 2 TPair.enc, .str s.Job.Session, .str s.Data, s.Files.av 3 TFile.enc, .int .i64 s.Served]
@[simp] theorem TWorker.len (s : TWorker) : s.enc.length = 9 := (rfl)
@[simp] theorem TWorker.all (s : TWorker) : s.enc.take 9 = s.enc := (rfl)
@[simp] theorem TWorker.g0 (s : TWorker) (K : AV → Prop) : getW s.enc 0 K = K (.int .i64 s.State) := by simp [TWorker.enc]
@[simp] theorem TWorker.g1 (s : TWorker) (K : AV → Prop) : getW s.enc 1 K = K (.int .i64 s.Job.Id) := by simp [TWorker.enc]
@[simp] theorem TWorker.g2 (s : TWorker) (K : AV → Prop) : getW s.enc 2 K = K (.str s.Job.Request.Path) := by simp [TWorker.enc]
@[simp] theorem TWorker.g3 (s : TWorker) (K : AV → Prop) : getW s.enc 3 K = K (s.Job.Request.Query.av 2 TPair.enc) := by simp [TWorker.enc]
@[simp] theorem TWorker.g4 (s : TWorker) (K : AV → Prop) : getW s.enc 4 K = K (s.Job.Request.Cookies.av 2 TPair.enc) := by simp [TWorker.enc]
@[simp] theorem TWorker.g5 (s : TWorker) (K : AV → Prop) : getW s.enc 5 K = K (.str s.Job.Session) := by simp [TWorker.enc]
@[simp] theorem TWorker.g6 (s : TWorker) (K : AV → Prop) : getW s.enc 6 K = K (.str s.Data) := by simp [TWorker.enc]
@[simp] theorem TWorker.g7 (s : TWorker) (K : AV → Prop) : getW s.enc 7 K = K (s.Files.av 3 TFile.enc) := by simp [TWorker.enc]
@[simp] theorem TWorker.g8 (s : TWorker) (K : AV → Prop) : getW s.enc 8 K = K (.int .i64 s.Served) := by simp [TWorker.enc]
@[simp] theorem TWorker.seg1 (s : TWorker) : (s.enc.drop 1).take 5 = s.Job.enc := (rfl)
theorem TWorker.cells (s : TWorker) : ∀ a, a ∈ s.enc → a.cell = true := by simp [TWorker.enc]
def TWorker.sz (s : TWorker) : Nat := s.Job.sz + s.Data.length + (szFileS s.Files)
def TWorker.ok (s : TWorker) : Prop := s.Job.ok ∧ s.Data.length ≤ mx ∧ okFileS s.Files
def TWorker.con (s : TWorker) : TWorker := { s with Job := s.Job.con, Files := s.Files.con TFile.con }
theorem TWorker.sz_con (s : TWorker) : s.con.sz = s.sz := by
  simp [TWorker.sz, TWorker.con, szFileS, TJob.sz_con, szL_map TFile.sz_con]
theorem TWorker.eq_fn {a b : TWorker} (h : a.sz ≤ 1099511627776) (he : a.con = b.con) : Fnc Tryd.prog 139 [.agg a.enc, .agg b.enc] (.bool true) := by
  simp only [TWorker.sz] at h
  have e0 : a.State = b.State := (congrArg TWorker.State he : a.con.State = b.con.State)
  have e1 : a.Job.con = b.Job.con := congrArg TWorker.Job he
  have e2 : a.Data = b.Data := (congrArg TWorker.Data he : a.con.Data = b.con.Data)
  have e3 : a.Files.list.map TFile.con = b.Files.list.map TFile.con := congrArg (fun s => s.Files.list) he
  have e4 : a.Served = b.Served := (congrArg TWorker.Served he : a.con.Served = b.con.Served)
  refine fn_of c139 (by simp [F139]) fun c => ?_
  unfold F139
  simp [e0, e2, e4]
  refine call_fn0 (TJob.eq_fn (by omega) e1) .bool fun _ _ => ?_
  simp [e0, e2, e4]
  refine call_fn0 (eqFileS_fn (by omega) e3) .bool fun _ _ => ?_
  simp [e0, e2, e4]
  exact fin_plain ⟨rfl, rfl⟩
def szWorkerS (s : SL TWorker) : Nat := s.list.length + szL TWorker.sz s.list
def okWorkerS (s : SL TWorker) : Prop := s.list.length ≤ mx ∧ ∀ x, x ∈ s.list → TWorker.ok x
theorem szWorkerS_con {s t : SL TWorker} (h : s.list.map TWorker.con = t.list.map TWorker.con) : szWorkerS s = szWorkerS t := by
  unfold szWorkerS
  rw [← szL_map (con := TWorker.con) TWorker.sz_con s.list, ← szL_map (con := TWorker.con) TWorker.sz_con t.list, h]
  have := congrArg List.length h; simp at this; rw [this]
theorem eqWorkerS_fn {s t : SL TWorker} (h : szWorkerS s ≤ 1099511627776) (he : s.list.map TWorker.con = t.list.map TWorker.con) : Fnc Tryd.prog 99 [s.av 9 TWorker.enc, t.av 9 TWorker.enc] (.bool true) := by
  unfold szWorkerS at h
  exact eqS_fn (g := 139) (con := TWorker.con) c99 (fun _ => rfl) (by unfold mx; omega) he fun x hx y hxy => TWorker.eq_fn (by have := szL_mem (sz := TWorker.sz) hx; omega) hxy
structure THeader where
  Name : List UInt8
  Value : List UInt8
def THeader.enc (s : THeader) : List AV := [.str s.Name, .str s.Value]
@[simp] theorem THeader.len (s : THeader) : s.enc.length = 2 := (rfl)
@[simp] theorem THeader.all (s : THeader) : s.enc.take 2 = s.enc := (rfl)
@[simp] theorem THeader.g0 (s : THeader) (K : AV → Prop) : getW s.enc 0 K = K (.str s.Name) := by simp [THeader.enc]
@[simp] theorem THeader.g1 (s : THeader) (K : AV → Prop) : getW s.enc 1 K = K (.str s.Value) := by simp [THeader.enc]
theorem THeader.cells (s : THeader) : ∀ a, a ∈ s.enc → a.cell = true := by simp [THeader.enc]
def THeader.sz (s : THeader) : Nat := s.Name.length + s.Value.length
def THeader.ok (s : THeader) : Prop := s.Name.length ≤ mx ∧ s.Value.length ≤ mx
def THeader.con (s : THeader) : THeader := s
theorem THeader.sz_con (s : THeader) : s.con.sz = s.sz := rfl
theorem THeader.sh : ∀ (n : Nat) (row : List AV), ShC Tryd.prog n 129 row → ∃ s : THeader, row = s.enc ∧ s.ok := by
  intro n row h
  obtain ⟨m, hl, hf⟩ := sh_fields (l := [(9, 0), (9, 1)]) (by kernel_rfl) h
  have hl' : row.length = 2 := hl.trans (by kernel_rfl)
  match row, hl' with
  | [x0, x1], _ =>
    have h0 := hf (9, 0) (by simp)
    rw [show Tryd.prog.cellsOf 9 = 1 by kernel_rfl] at h0
    obtain ⟨v0, rfl, k0⟩ := sh_str (t := 9) (by kernel_rfl) (show ShC Tryd.prog m 9 [x0] from h0)
    have h1 := hf (9, 1) (by simp)
    rw [show Tryd.prog.cellsOf 9 = 1 by kernel_rfl] at h1
    obtain ⟨v1, rfl, k1⟩ := sh_str (t := 9) (by kernel_rfl) (show ShC Tryd.prog m 9 [x1] from h1)
    exact ⟨⟨v0, v1⟩, rfl, ⟨k0, k1⟩⟩
theorem THeader.sz_fn {s : THeader} (hs : s.ok) {left : Int} (hl : Room left) : Fnc Tryd.prog 114 [.agg s.enc, .int .i64 left] (.int .i64 (szOf s.sz left)) := by
  unfold THeader.ok at hs
  have hr := hl.2
  refine fn_of c114 (by simp [F114]) fun c => ?_
  unfold F114
  simp
  rw [szOf_wrap hs.1 hl]
  refine ⟨fun h => fin_plain ⟨by rw [szOf_neg (by simp only [THeader.sz]; omega)], rfl⟩, fun h => ?_⟩
  rw [szOf_wrap hs.2 ⟨by omega, by omega⟩]
  refine ⟨fun h => fin_plain ⟨by rw [szOf_neg (by simp only [THeader.sz]; omega)], rfl⟩, fun h => ?_⟩
  have hz : s.sz = s.Name.length + s.Value.length := rfl
  have e : szOf s.sz left = left - (s.Name.length : Int) - (s.Value.length : Int) := by
    unfold szOf
    rw [if_pos (by omega)]
    omega
  exact fin_plain ⟨by rw [e], rfl⟩
theorem THeader.to_fn {s : THeader} (h : s.sz ≤ 1048576) : Tr Tryd.prog 118 [.agg s.enc] fun _ r => ∃ b : THeader, r = .agg b.enc ∧ b.con = s.con := by
  simp only [THeader.sz] at h
  intro c
  refine con_of c118 (by simp [F118]) ?_
  unfold F118
  simp [putA]
  refine fin_plain ⟨rfl, ⟨⟨s.Name, s.Value⟩, rfl, ?_⟩, from_agg ?_⟩
  · rfl
  · simp
theorem THeader.eq_fn {a b : THeader} (h : a.sz ≤ 1099511627776) (he : a.con = b.con) : Fnc Tryd.prog 121 [.agg a.enc, .agg b.enc] (.bool true) := by
  simp only [THeader.sz] at h
  have e0 : a.Name = b.Name := (congrArg THeader.Name he : a.con.Name = b.con.Name)
  have e1 : a.Value = b.Value := (congrArg THeader.Value he : a.con.Value = b.con.Value)
  refine fn_of c121 (by simp [F121]) fun c => ?_
  unfold F121
  simp [e0, e1]
  exact fin_plain ⟨rfl, rfl⟩
def szHeaderS (s : SL THeader) : Nat := s.list.length + szL THeader.sz s.list
def okHeaderS (s : SL THeader) : Prop := s.list.length ≤ mx ∧ ∀ x, x ∈ s.list → THeader.ok x
theorem szHeaderS_con {s t : SL THeader} (h : s.list.map THeader.con = t.list.map THeader.con) : szHeaderS s = szHeaderS t := by
  unfold szHeaderS
  rw [← szL_map (con := THeader.con) THeader.sz_con s.list, ← szL_map (con := THeader.con) THeader.sz_con t.list, h]
  have := congrArg List.length h; simp at this; rw [this]
theorem shHeaderS {n : Nat} {a : AV} (h : ShC Tryd.prog n 28 [a]) : ∃ s : SL THeader, a = s.av 2 THeader.enc ∧ okHeaderS s := by
  obtain ⟨s, h1, h2, h3⟩ := sh_slc (P := Tryd.prog) (t := 28) (el := 129) (w := 2) (enc := THeader.enc) (ok := THeader.ok) (by kernel_rfl) (by kernel_rfl) (THeader.sh) h
  exact ⟨s, h1, h2, h3⟩
theorem szHeaderS_fn {s : SL THeader} (hs : okHeaderS s) {left : Int} (hl : Room left) : Fnc Tryd.prog 54 [s.av 2 THeader.enc, .int .i64 left] (.int .i64 (szOf (szHeaderS s) left)) :=
  szS_fn (g := 114) c54 (fun _ => rfl) hs.1 hl fun x hx left hl => THeader.sz_fn (hs.2 x hx) hl
theorem toHeaderS_fn {s : SL THeader} (h : szHeaderS s ≤ 1048576) : Tr Tryd.prog 57 [s.av 2 THeader.enc] fun _ r => ∃ b : SL THeader, r = b.av 2 THeader.enc ∧ b.list.map THeader.con = s.list.map THeader.con := by
  unfold szHeaderS at h
  exact toS_fn (g := 118) (z := [.str [], .str []]) (bytes := 32) c57 rfl (fun _ => rfl) (fun x => THeader.cells x) (by omega) (by omega) fun x hx => THeader.to_fn (by have := szL_mem (sz := THeader.sz) hx; omega)
theorem eqHeaderS_fn {s t : SL THeader} (h : szHeaderS s ≤ 1099511627776) (he : s.list.map THeader.con = t.list.map THeader.con) : Fnc Tryd.prog 61 [s.av 2 THeader.enc, t.av 2 THeader.enc] (.bool true) := by
  unfold szHeaderS at h
  exact eqS_fn (g := 121) (con := THeader.con) c61 (fun _ => rfl) (by unfold mx; omega) he fun x hx y hxy => THeader.eq_fn (by have := szL_mem (sz := THeader.sz) hx; omega) hxy
structure TResponse where
  Code : Int
  Headers : SL THeader
  Body : List UInt8
def TResponse.enc (s : TResponse) : List AV := [.int .i64 s.Code, s.Headers.av 2 THeader.enc, .str s.Body]
@[simp] theorem TResponse.len (s : TResponse) : s.enc.length = 3 := (rfl)
@[simp] theorem TResponse.all (s : TResponse) : s.enc.take 3 = s.enc := (rfl)
@[simp] theorem TResponse.g0 (s : TResponse) (K : AV → Prop) : getW s.enc 0 K = K (.int .i64 s.Code) := by simp [TResponse.enc]
@[simp] theorem TResponse.g1 (s : TResponse) (K : AV → Prop) : getW s.enc 1 K = K (s.Headers.av 2 THeader.enc) := by simp [TResponse.enc]
@[simp] theorem TResponse.g2 (s : TResponse) (K : AV → Prop) : getW s.enc 2 K = K (.str s.Body) := by simp [TResponse.enc]
theorem TResponse.cells (s : TResponse) : ∀ a, a ∈ s.enc → a.cell = true := by simp [TResponse.enc]
def TResponse.sz (s : TResponse) : Nat := (szHeaderS s.Headers) + s.Body.length
def TResponse.ok (s : TResponse) : Prop := okHeaderS s.Headers ∧ s.Body.length ≤ mx
def TResponse.con (s : TResponse) : TResponse := { s with Headers := s.Headers.con THeader.con }
theorem TResponse.sz_con (s : TResponse) : s.con.sz = s.sz := by
  simp [TResponse.sz, TResponse.con, szHeaderS, szL_map THeader.sz_con]
theorem TResponse.sh : ∀ (n : Nat) (row : List AV), ShC Tryd.prog n 30 row → ∃ s : TResponse, row = s.enc ∧ s.ok := by
  intro n row h
  obtain ⟨m, hl, hf⟩ := sh_fields (l := [(3, 0), (28, 1), (9, 2)]) (by kernel_rfl) h
  have hl' : row.length = 3 := hl.trans (by kernel_rfl)
  match row, hl' with
  | [x0, x1, x2], _ =>
    have h0 := hf (3, 0) (by simp)
    rw [show Tryd.prog.cellsOf 3 = 1 by kernel_rfl] at h0
    obtain ⟨v0, rfl, _⟩ := sh_int (k := .i64) (t := 3) (by kernel_rfl) (show ShC Tryd.prog m 3 [x0] from h0)
    have h1 := hf (28, 1) (by simp)
    rw [show Tryd.prog.cellsOf 28 = 1 by kernel_rfl] at h1
    obtain ⟨v1, rfl, k1⟩ := shHeaderS (show ShC Tryd.prog m 28 [x1] from h1)
    have h2 := hf (9, 2) (by simp)
    rw [show Tryd.prog.cellsOf 9 = 1 by kernel_rfl] at h2
    obtain ⟨v2, rfl, k2⟩ := sh_str (t := 9) (by kernel_rfl) (show ShC Tryd.prog m 9 [x2] from h2)
    exact ⟨⟨v0, v1, v2⟩, rfl, ⟨k1, k2⟩⟩
theorem TResponse.sz_fn {s : TResponse} (hs : s.ok) {left : Int} (hl : Room left) : Fnc Tryd.prog 19 [.agg s.enc, .int .i64 left] (.int .i64 (szOf s.sz left)) := by
  unfold TResponse.ok at hs
  have hr := hl.2
  refine fn_of c19 (by simp [F19]) fun c => ?_
  unfold F19
  simp
  refine call_fn0 (szHeaderS_fn hs.1 hl) .int fun _ _ => ?_
  simp
  refine ⟨fun h => fin_plain ⟨by have := szOf_lt h; rw [szOf_neg (by simp only [TResponse.sz]; omega)], rfl⟩, fun h => ?_⟩
  obtain ⟨h0, k0⟩ := szOf_ge h
  rw [h0]
  rw [szOf_wrap hs.2 ⟨by omega, by omega⟩]
  refine ⟨fun h => fin_plain ⟨by rw [szOf_neg (by simp only [TResponse.sz]; omega)], rfl⟩, fun h => ?_⟩
  have hz : s.sz = (szHeaderS s.Headers) + s.Body.length := rfl
  have e : szOf s.sz left = left - ((szHeaderS s.Headers) : Int) - (s.Body.length : Int) := by
    unfold szOf
    rw [if_pos (by omega)]
    omega
  exact fin_plain ⟨by rw [e], rfl⟩
theorem TResponse.to_fn {s : TResponse} (h : s.sz ≤ 1048576) : Tr Tryd.prog 21 [.agg s.enc] fun _ r => ∃ b : TResponse, r = .agg b.enc ∧ b.con = s.con := by
  simp only [TResponse.sz] at h
  intro c
  refine con_of c21 (by simp [F21]) ?_
  unfold F21
  simp [putA]
  refine call_tree0 (toHeaderS_fn (by omega)) fun r1 c1 hc1 ⟨b1, e1, q1⟩ f1 => ?_
  subst e1
  simp [putA]
  refine fin_plain ⟨rfl, ⟨⟨s.Code, b1, s.Body⟩, rfl, ?_⟩, from_agg ?_⟩
  · simp [TResponse.con, SL.con, SL.pcon, q1]
  · simp
    exact f1.mono (by omega)
theorem TResponse.eq_fn {a b : TResponse} (h : a.sz ≤ 1099511627776) (he : a.con = b.con) : Fnc Tryd.prog 23 [.agg a.enc, .agg b.enc] (.bool true) := by
  simp only [TResponse.sz] at h
  have e0 : a.Code = b.Code := (congrArg TResponse.Code he : a.con.Code = b.con.Code)
  have e1 : a.Headers.list.map THeader.con = b.Headers.list.map THeader.con := congrArg (fun s => s.Headers.list) he
  have e2 : a.Body = b.Body := (congrArg TResponse.Body he : a.con.Body = b.con.Body)
  refine fn_of c23 (by simp [F23]) fun c => ?_
  unfold F23
  simp [e0, e2]
  refine call_fn0 (eqHeaderS_fn (by omega) e1) .bool fun _ _ => ?_
  simp [e0, e2]
  exact fin_plain ⟨rfl, rfl⟩
structure TAnswer where
  Id : Int
  Session : List UInt8
  Files : SL TFile
  Request : TRequest
  Before : List UInt8
  Response : TResponse
  After : List UInt8
def TAnswer.enc (s : TAnswer) : List AV := [.int .i64 s.Id, .str s.Session, s.Files.av 3 TFile.enc, .str s.Request.Path, s.Request.Query.av 2 TPair.enc, s.Request.Cookies.av 2 TPair.enc, .str s.Before, .int .i64 s.Response.Code, s.Response.Headers.av 2 THeader.enc, .str s.Response.Body, .str s.After]
@[simp] theorem TAnswer.len (s : TAnswer) : s.enc.length = 11 := (rfl)
@[simp] theorem TAnswer.all (s : TAnswer) : s.enc.take 11 = s.enc := (rfl)
@[simp] theorem TAnswer.g0 (s : TAnswer) (K : AV → Prop) : getW s.enc 0 K = K (.int .i64 s.Id) := by simp [TAnswer.enc]
@[simp] theorem TAnswer.g1 (s : TAnswer) (K : AV → Prop) : getW s.enc 1 K = K (.str s.Session) := by simp [TAnswer.enc]
@[simp] theorem TAnswer.g2 (s : TAnswer) (K : AV → Prop) : getW s.enc 2 K = K (s.Files.av 3 TFile.enc) := by simp [TAnswer.enc]
@[simp] theorem TAnswer.g3 (s : TAnswer) (K : AV → Prop) : getW s.enc 3 K = K (.str s.Request.Path) := by simp [TAnswer.enc]
@[simp] theorem TAnswer.g4 (s : TAnswer) (K : AV → Prop) : getW s.enc 4 K = K (s.Request.Query.av 2 TPair.enc) := by simp [TAnswer.enc]
@[simp] theorem TAnswer.g5 (s : TAnswer) (K : AV → Prop) : getW s.enc 5 K = K (s.Request.Cookies.av 2 TPair.enc) := by simp [TAnswer.enc]
@[simp] theorem TAnswer.g6 (s : TAnswer) (K : AV → Prop) : getW s.enc 6 K = K (.str s.Before) := by simp [TAnswer.enc]
@[simp] theorem TAnswer.g7 (s : TAnswer) (K : AV → Prop) : getW s.enc 7 K = K (.int .i64 s.Response.Code) := by simp [TAnswer.enc]
@[simp] theorem TAnswer.g8 (s : TAnswer) (K : AV → Prop) : getW s.enc 8 K = K (s.Response.Headers.av 2 THeader.enc) := by simp [TAnswer.enc]
@[simp] theorem TAnswer.g9 (s : TAnswer) (K : AV → Prop) : getW s.enc 9 K = K (.str s.Response.Body) := by simp [TAnswer.enc]
@[simp] theorem TAnswer.g10 (s : TAnswer) (K : AV → Prop) : getW s.enc 10 K = K (.str s.After) := by simp [TAnswer.enc]
@[simp] theorem TAnswer.seg3 (s : TAnswer) : (s.enc.drop 3).take 3 = s.Request.enc := (rfl)
@[simp] theorem TAnswer.seg7 (s : TAnswer) : (s.enc.drop 7).take 3 = s.Response.enc := (rfl)
theorem TAnswer.cells (s : TAnswer) : ∀ a, a ∈ s.enc → a.cell = true := by simp [TAnswer.enc]
def TAnswer.sz (s : TAnswer) : Nat := s.Session.length + (szFileS s.Files) + s.Request.sz + s.Before.length + s.Response.sz + s.After.length
def TAnswer.ok (s : TAnswer) : Prop := s.Session.length ≤ mx ∧ okFileS s.Files ∧ s.Request.ok ∧ s.Before.length ≤ mx ∧ s.Response.ok ∧ s.After.length ≤ mx
def TAnswer.con (s : TAnswer) : TAnswer := { s with Files := s.Files.con TFile.con, Request := s.Request.con, Response := s.Response.con }
theorem TAnswer.sz_con (s : TAnswer) : s.con.sz = s.sz := by
  simp [TAnswer.sz, TAnswer.con, szFileS, szL_map TFile.sz_con, TRequest.sz_con, TResponse.sz_con]
theorem TAnswer.eq_fn {a b : TAnswer} (h : a.sz ≤ 1099511627776) (he : a.con = b.con) : Fnc Tryd.prog 140 [.agg a.enc, .agg b.enc] (.bool true) := by
  simp only [TAnswer.sz] at h
  have e0 : a.Id = b.Id := (congrArg TAnswer.Id he : a.con.Id = b.con.Id)
  have e1 : a.Session = b.Session := (congrArg TAnswer.Session he : a.con.Session = b.con.Session)
  have e2 : a.Files.list.map TFile.con = b.Files.list.map TFile.con := congrArg (fun s => s.Files.list) he
  have e3 : a.Request.con = b.Request.con := congrArg TAnswer.Request he
  have e4 : a.Before = b.Before := (congrArg TAnswer.Before he : a.con.Before = b.con.Before)
  have e5 : a.Response.con = b.Response.con := congrArg TAnswer.Response he
  have e6 : a.After = b.After := (congrArg TAnswer.After he : a.con.After = b.con.After)
  refine fn_of c140 (by simp [F140]) fun c => ?_
  unfold F140
  simp [e0, e1, e4, e6]
  refine call_fn0 (eqFileS_fn (by omega) e2) .bool fun _ _ => ?_
  simp [e0, e1, e4, e6]
  refine call_fn0 (TRequest.eq_fn (by omega) e3) .bool fun _ _ => ?_
  simp [e0, e1, e4, e6]
  refine call_fn0 (TResponse.eq_fn (by omega) e5) .bool fun _ _ => ?_
  simp [e0, e1, e4, e6]
  exact fin_plain ⟨rfl, rfl⟩
def szAnswerS (s : SL TAnswer) : Nat := s.list.length + szL TAnswer.sz s.list
def okAnswerS (s : SL TAnswer) : Prop := s.list.length ≤ mx ∧ ∀ x, x ∈ s.list → TAnswer.ok x
theorem szAnswerS_con {s t : SL TAnswer} (h : s.list.map TAnswer.con = t.list.map TAnswer.con) : szAnswerS s = szAnswerS t := by
  unfold szAnswerS
  rw [← szL_map (con := TAnswer.con) TAnswer.sz_con s.list, ← szL_map (con := TAnswer.con) TAnswer.sz_con t.list, h]
  have := congrArg List.length h; simp at this; rw [this]
theorem eqAnswerS_fn {s t : SL TAnswer} (h : szAnswerS s ≤ 1099511627776) (he : s.list.map TAnswer.con = t.list.map TAnswer.con) : Fnc Tryd.prog 100 [s.av 11 TAnswer.enc, t.av 11 TAnswer.enc] (.bool true) := by
  unfold szAnswerS at h
  exact eqS_fn (g := 140) (con := TAnswer.con) c100 (fun _ => rfl) (by unfold mx; omega) he fun x hx y hxy => TAnswer.eq_fn (by have := szL_mem (sz := TAnswer.sz) hx; omega) hxy
structure TServer where
  Files : SL TFile
  Lines : SL TLine
  Sessions : SL TSession
  Queue : SL TJob
  Workers : SL TWorker
  Done : SL TAnswer
  Next : Int
  Now : Int
def TServer.enc (s : TServer) : List AV := [s.Files.av 3 TFile.enc, s.Lines.av 4 TLine.enc, s.Sessions.av 4 TSession.enc, s.Queue.av 5 TJob.enc, s.Workers.av 9 TWorker.enc, s.Done.av 11 TAnswer.enc, .int .i64 s.Next, .int .i64 s.Now]
@[simp] theorem TServer.len (s : TServer) : s.enc.length = 8 := (rfl)
@[simp] theorem TServer.all (s : TServer) : s.enc.take 8 = s.enc := (rfl)
@[simp] theorem TServer.g0 (s : TServer) (K : AV → Prop) : getW s.enc 0 K = K (s.Files.av 3 TFile.enc) := by simp [TServer.enc]
@[simp] theorem TServer.g1 (s : TServer) (K : AV → Prop) : getW s.enc 1 K = K (s.Lines.av 4 TLine.enc) := by simp [TServer.enc]
@[simp] theorem TServer.g2 (s : TServer) (K : AV → Prop) : getW s.enc 2 K = K (s.Sessions.av 4 TSession.enc) := by simp [TServer.enc]
@[simp] theorem TServer.g3 (s : TServer) (K : AV → Prop) : getW s.enc 3 K = K (s.Queue.av 5 TJob.enc) := by simp [TServer.enc]
@[simp] theorem TServer.g4 (s : TServer) (K : AV → Prop) : getW s.enc 4 K = K (s.Workers.av 9 TWorker.enc) := by simp [TServer.enc]
@[simp] theorem TServer.g5 (s : TServer) (K : AV → Prop) : getW s.enc 5 K = K (s.Done.av 11 TAnswer.enc) := by simp [TServer.enc]
@[simp] theorem TServer.g6 (s : TServer) (K : AV → Prop) : getW s.enc 6 K = K (.int .i64 s.Next) := by simp [TServer.enc]
@[simp] theorem TServer.g7 (s : TServer) (K : AV → Prop) : getW s.enc 7 K = K (.int .i64 s.Now) := by simp [TServer.enc]
theorem TServer.cells (s : TServer) : ∀ a, a ∈ s.enc → a.cell = true := by simp [TServer.enc]
def TServer.sz (s : TServer) : Nat := (szFileS s.Files) + (szLineS s.Lines) + (szSessionS s.Sessions) + (szJobS s.Queue) + (szWorkerS s.Workers) + (szAnswerS s.Done)
def TServer.ok (s : TServer) : Prop := okFileS s.Files ∧ okLineS s.Lines ∧ okSessionS s.Sessions ∧ okJobS s.Queue ∧ okWorkerS s.Workers ∧ okAnswerS s.Done
def TServer.con (s : TServer) : TServer := { s with Files := s.Files.con TFile.con, Lines := s.Lines.con TLine.con, Sessions := s.Sessions.con TSession.con, Queue := s.Queue.con TJob.con, Workers := s.Workers.con TWorker.con, Done := s.Done.con TAnswer.con }
theorem TServer.sz_con (s : TServer) : s.con.sz = s.sz := by
  simp [TServer.sz, TServer.con, szFileS, szLineS, szSessionS, szJobS, szWorkerS, szAnswerS, szL_map TFile.sz_con, szL_map TLine.sz_con, szL_map TSession.sz_con, szL_map TJob.sz_con, szL_map TWorker.sz_con, szL_map TAnswer.sz_con]
theorem TServer.eq_fn {a b : TServer} (h : a.sz ≤ 1099511627776) (he : a.con = b.con) : Fnc Tryd.prog 46 [.agg a.enc, .agg b.enc] (.bool true) := by
  simp only [TServer.sz] at h
  have e0 : a.Files.list.map TFile.con = b.Files.list.map TFile.con := congrArg (fun s => s.Files.list) he
  have e1 : a.Lines.list.map TLine.con = b.Lines.list.map TLine.con := congrArg (fun s => s.Lines.list) he
  have e2 : a.Sessions.list.map TSession.con = b.Sessions.list.map TSession.con := congrArg (fun s => s.Sessions.list) he
  have e3 : a.Queue.list.map TJob.con = b.Queue.list.map TJob.con := congrArg (fun s => s.Queue.list) he
  have e4 : a.Workers.list.map TWorker.con = b.Workers.list.map TWorker.con := congrArg (fun s => s.Workers.list) he
  have e5 : a.Done.list.map TAnswer.con = b.Done.list.map TAnswer.con := congrArg (fun s => s.Done.list) he
  have e6 : a.Next = b.Next := (congrArg TServer.Next he : a.con.Next = b.con.Next)
  have e7 : a.Now = b.Now := (congrArg TServer.Now he : a.con.Now = b.con.Now)
  refine fn_of c46 (by simp [F46]) fun c => ?_
  unfold F46
  simp [e6, e7]
  refine call_fn0 (eqFileS_fn (by omega) e0) .bool fun _ _ => ?_
  simp [e6, e7]
  refine call_fn0 (eqLineS_fn (by omega) e1) .bool fun _ _ => ?_
  simp [e6, e7]
  refine call_fn0 (eqSessionS_fn (by omega) e2) .bool fun _ _ => ?_
  simp [e6, e7]
  refine call_fn0 (eqJobS_fn (by omega) e3) .bool fun _ _ => ?_
  simp [e6, e7]
  refine call_fn0 (eqWorkerS_fn (by omega) e4) .bool fun _ _ => ?_
  simp [e6, e7]
  refine call_fn0 (eqAnswerS_fn (by omega) e5) .bool fun _ _ => ?_
  simp [e6, e7]
  exact fin_plain ⟨rfl, rfl⟩
end A
end Go.Proofs.YtfcimcoanlgldaaDoor

/-
  Sites: IsSite and SiteStamp of the reference and of the program are the same plain functions; the law of SiteStamp answers true. No condition.
-/


namespace Go.Proofs.YtfcimcoanlgldaaDoor
namespace A
set_option linter.unusedVariables false
set_option linter.unusedSimpArgs false
set_option maxRecDepth 100000

/-- where a path stands first -/
def findF (p : List UInt8) : List TFile → Nat → Int
  | [], _ => -1
  | x :: l, i => if x.Path = p then i else findF p l (i + 1)
theorem findF_hit {id : List UInt8} {l : List TFile} {i : Nat} (h : i < l.length) (e : l[i].Path = id) : findF id (l.drop i) i = i := by
  rw [List.drop_eq_getElem_cons h, findF, if_pos e]
theorem findF_miss {id : List UInt8} {l : List TFile} {i : Nat} (h : i < l.length) (e : l[i].Path ≠ id) : findF id (l.drop i) i = findF id (l.drop (i + 1)) (i + 1) := by
  rw [List.drop_eq_getElem_cons h, findF, if_neg e]
def findP (p : List UInt8) (l : List TFile) : Int := match normP p with | some q => findF q l 0 | none => -1
theorem spec_findP {s : SL TFile} {p : List UInt8} (hn : s.list.length ≤ mx) (hp : p.length ≤ mx) : Fnc Tryd.prog 122 [s.av 3 TFile.enc, .str p] (.int .i64 (findP p s.list)) := by
  refine fn_of c122 (by simp [F122]) fun c => ?_
  unfold F122
  simp
  refine call_fn0 (spec_norm hp) (free_norm _ _) fun _ _ => ?_
  cases hq : normP p with
  | none =>
    simp [normA, hq]
    refine loop_drop 0 (fun i e H c' => e 6 = .bool false ∧ H = []) ⟨rfl, rfl⟩ ?_
    intro i e H c hi ⟨e6, hH⟩ N hN
    subst hH
    simp [e6]
    exact fin_plain ⟨by simp [findP, hq], rfl⟩
  | some q =>
    simp [normA, hq]
    refine loop_drop s.list.length (fun i e H c' => e 0 = s.av 3 TFile.enc ∧ e 5 = .str q ∧ e 6 = .bool true ∧ e 7 = .int .i64 i ∧ findF q s.list 0 = findF q (s.list.drop i) i ∧ H = []) ⟨rfl, rfl, rfl, rfl, rfl, rfl⟩ ?_
    intro i e H c hi ⟨e0, e5, e6, e7, hf, hH⟩ N hN
    subst hH
    have hP : findP p s.list = findF q s.list 0 := by unfold findP; rw [hq]
    by_cases h : i < s.list.length
    · have hg : s.list[i]? = some s.list[i] := List.getElem?_eq_getElem h
      have hhit := fun e => findF_hit (id := q) h e
      have hmiss := fun e => findF_miss (id := q) h e
      have hstep : IntKind.i64.wrap ((i : Int) + 1) = ((i + 1 : Nat) : Int) := by rw [step64 hn h]; rfl
      generalize s.list[i] = x at hg hhit hmiss
      by_cases hx : x.Path = q
      · simp [e0, e5, e6, e7, h, getW_of hg, hx]
        exact fin_plain ⟨by rw [hP, hf, hhit hx], rfl⟩
      · simp [e0, e5, e6, e7, h, getW_of hg, hx, hstep]
        exact hN _ _ _ _ h (List.Sublist.refl _) ⟨by simp [upd, e0], by simp [upd, e5], by simp [upd, e6], by simp [upd], by rw [hf, hmiss hx], rfl⟩
    · have hie : i = s.list.length := by omega
      subst hie
      simp [e0, e5, e6, e7]
      exact fin_plain ⟨by rw [hP, hf, List.drop_length]; rfl, rfl⟩
theorem findP_norm {p : List UInt8} (h : isN p = true) (l : List TFile) : findP p l = findF p l 0 := by
  unfold findP; rw [of_decide_eq_true h]
/-- One file by itself. -/
def fileOk (x : TFile) : Bool := isN x.Path && decide (x.Source.length ≤ 4000) && inR x.Version 1 1000000000
/-- No name stands twice. -/
def once : List TFile → Bool
  | [] => true
  | x :: l => !(l.map (·.Path)).contains x.Path && once l
def isSite (l : List TFile) : Bool := l.all fileOk && once l.reverse && decide (l.length ≤ 8)

theorem findF_miss_iff (id : List UInt8) : ∀ (l : List TFile) (i : Nat), (l.map (·.Path)).contains id = false → findF id l i = -1
  | [], i, _ => rfl
  | x :: l, i, h => by
    simp only [List.map_cons, List.contains_cons, Bool.or_eq_false_iff] at h
    unfold findF
    rw [if_neg (by intro e; simp [e] at h)]
    exact findF_miss_iff id l (i + 1) h.2
theorem findF_app {id : List UInt8} (m : List TFile) : ∀ (l : List TFile) (i : Nat), (l.map (·.Path)).contains id = false → findF id (l ++ m) i = findF id m (i + l.length)
  | [], i, _ => by simp
  | x :: l, i, h => by
    simp only [List.map_cons, List.contains_cons, Bool.or_eq_false_iff] at h
    rw [List.cons_append, findF, if_neg (by intro e; simp [e] at h), findF_app m l (i + 1) h.2]
    simp only [List.length_cons]; congr 1; omega
theorem findF_hit_lt {id : List UInt8} (m : List TFile) : ∀ (l : List TFile) (i : Nat), (l.map (·.Path)).contains id = true → findF id (l ++ m) i < i + l.length
  | [], i, h => by simp at h
  | x :: l, i, h => by
    rw [List.cons_append, findF]
    by_cases e : x.Path = id
    · rw [if_pos e]; simp; omega
    · rw [if_neg e]
      have h' : (l.map (·.Path)).contains id = true := by
        simp only [List.map_cons, List.contains_cons, Bool.or_eq_true] at h
        rcases h with h | h
        · exact absurd (by simpa using h : id = x.Path).symm e
        · exact h
      have := findF_hit_lt m l (i + 1) h'
      simp; omega
/-- The first of its name is it itself just if none before has it. -/
theorem find_self {l : List TFile} {i : Nat} (h : i < l.length) : (findF l[i].Path l 0 = i) ↔ ((l.take i).map (·.Path)).contains l[i].Path = false := by
  have e : l = l.take i ++ l.drop i := (List.take_append_drop i l).symm
  have hl : (l.take i).length = i := by simp; omega
  constructor
  · intro hf
    cases hc : ((l.take i).map (·.Path)).contains l[i].Path with
    | false => rfl
    | true =>
      have := findF_hit_lt (l.drop i) (l.take i) 0 hc
      rw [← e, hf, hl] at this
      omega
  · intro hc
    have := findF_app (l.drop i) (l.take i) 0 hc
    rw [← e, hl] at this
    rw [this, List.drop_eq_getElem_cons h, findF, if_pos rfl]
    simp
theorem once_step {l : List TFile} {i : Nat} (h : i < l.length) : once (l.take (i + 1)).reverse = (!((l.take i).map (·.Path)).contains l[i].Path && once (l.take i).reverse) := by
  rw [List.take_succ_eq_append_getElem h, List.reverse_append]
  simp only [List.reverse_cons, List.reverse_nil, List.nil_append, List.singleton_append, once, List.map_reverse]
  congr 2
  rw [Bool.eq_iff_iff]
  simp
/-- Up to an index. -/
def okTo (l : List TFile) (i : Nat) : Bool := (l.take i).all fileOk && once (l.take i).reverse
theorem okTo_step {l : List TFile} {i : Nat} (h : i < l.length) : okTo l (i + 1) = (okTo l i && fileOk l[i] && !((l.take i).map (·.Path)).contains l[i].Path) := by
  unfold okTo
  rw [once_step h, List.take_succ_eq_append_getElem h, List.all_append]
  simp only [List.all_cons, List.all_nil, Bool.and_true]
  cases (l.take i).all fileOk <;> cases fileOk l[i] <;> cases once (l.take i).reverse <;> simp
theorem okTo_mono {l : List TFile} {i : Nat} (h : okTo l i = false) : isSite l = false := by
  have key : ∀ j, i ≤ j → j ≤ l.length → okTo l j = false := by
    intro j hj
    induction hj with
    | refl => exact fun _ => h
    | step hj ih => intro hl; rw [okTo_step (by omega), ih (by omega)]; simp
  rcases Nat.lt_or_ge i l.length with h1 | h1
  · have := key l.length (Nat.le_of_lt h1) (Nat.le_refl _)
    unfold okTo at this
    rw [List.take_length] at this
    unfold isSite
    rw [this]; rfl
  · unfold okTo at h
    rw [List.take_of_length_le h1] at h
    unfold isSite
    rw [h]; rfl
theorem okTo_all {l : List TFile} (h : okTo l l.length = true) : isSite l = decide (l.length ≤ 8) := by
  unfold okTo at h
  rw [List.take_length] at h
  unfold isSite
  rw [h]; rfl

theorem spec_site {s : SL TFile} (hs : okFileS s) : Fnc Tryd.prog 63 [s.av 3 TFile.enc] (.bool (isSite s.list)) := by
  have hn := hs.1
  refine fn_of c63 (by simp [F63]) fun c => ?_
  unfold F63
  simp
  refine loop_drop s.list.length (fun i e H c' => e 0 = s.av 3 TFile.enc ∧ e 3 = .int .i64 i ∧ okTo s.list i = true ∧ H = []) ⟨rfl, rfl, rfl, rfl⟩ ?_
  intro i e H c hi ⟨e0, e3, hall, hH⟩ N hN
  subst hH
  simp [e0, e3]
  refine ⟨fun h => ⟨s.list[i], List.getElem?_eq_getElem h, ?_⟩, fun h => ?_⟩
  · have hst := okTo_step h
    have hself := find_self h
    have hok := hs.2 _ (List.getElem_mem h)
    rw [hall] at hst
    have hg : s.list[i]? = some s.list[i] := List.getElem?_eq_getElem h
    generalize hx : s.list[i] = x at hst hself hok hg
    have bad : (fileOk x && !((s.list.take i).map (·.Path)).contains x.Path) = false → isSite s.list = false := fun hb => okTo_mono (i := i + 1) (by rw [hst]; simpa using hb)
    simp [e0, e3, getW_of hg]
    refine call_fn0 (spec_isN hok.1) .bool fun _ _ => ?_
    cases h1 : isN x.Path
    · simp [e0, e3, getW_of hg]; exact fin_plain ⟨by rw [bad (by simp [fileOk, h1])], rfl⟩
    simp [e0, e3, getW_of hg]
    refine call_fn0 (spec_findP hn hok.1) .int fun _ _ => ?_
    rw [findP_norm h1]
    by_cases h2 : findF x.Path s.list 0 = i
    rotate_left
    · simp [e0, e3, getW_of hg, h2]
      have hc : ((s.list.take i).map (·.Path)).contains x.Path = true := by
        cases hc : ((s.list.take i).map (·.Path)).contains x.Path with
        | true => rfl
        | false => exact absurd (hself.2 hc) h2
      exact fin_plain ⟨by rw [bad (by rw [hc]; simp)], rfl⟩
    have hc := hself.1 h2
    simp [e0, e3, getW_of hg, h2]
    by_cases h3 : (4000 : Int) < x.Source.length
    · simp [e0, e3, getW_of hg, h3]; exact fin_plain ⟨by rw [bad (by simp [fileOk]; intros; omega)], rfl⟩
    simp [e0, e3, getW_of hg, h3]
    refine call_fn0 (l1In_fn _ _ _) .bool fun _ _ => ?_
    cases h5 : inR x.Version 1 1000000000
    · simp [e0, e3, getW_of hg, h3]; exact fin_plain ⟨by rw [bad (by simp [fileOk, h5])], rfl⟩
    simp [e0, e3, getW_of hg, h3]
    exact hN _ _ _ _ h (List.nil_sublist _) ⟨by simp [upd, e0], by simp [upd]; exact step64 hn h, by rw [hst]; simp only [fileOk, h1, h5, hc]; simp; omega, rfl⟩
  · have : i = s.list.length := by omega
    subst this
    refine fin_plain ⟨?_, rfl⟩
    rw [okTo_all hall]; simp; omega
def seenRow (x : TFile) : List AV := [.str x.Path, .bool true]
theorem mfind_no {id : List UInt8} : ∀ (l : List TFile) (k : Nat), (l.map (·.Path)).contains id = false → mfind (.str id) (l.map seenRow) k = some none
  | [], k, _ => rfl
  | x :: l, k, h => by
    simp only [List.map_cons, List.contains_cons, Bool.or_eq_false_iff] at h
    have e : keyEq (.str id) (.str x.Path) = some false := by simp only [keyEq]; rw [h.1]
    simp only [List.map_cons, seenRow, mfind, e]
    exact mfind_no l (k + 1) h.2
theorem mfind_yes {id : List UInt8} : ∀ (l : List TFile) (k : Nat), (l.map (·.Path)).contains id = true → ∃ j, mfind (.str id) (l.map seenRow) k = some (some (j, .bool true))
  | [], k, h => by simp at h
  | x :: l, k, h => by
    cases e : (id == x.Path) with
    | true =>
      have e' : keyEq (.str id) (.str x.Path) = some true := by simp only [keyEq]; rw [e]
      exact ⟨k, by simp only [List.map_cons, seenRow, mfind, e']⟩
    | false =>
      have e' : keyEq (.str id) (.str x.Path) = some false := by simp only [keyEq]; rw [e]
      simp only [List.map_cons, List.contains_cons, e, Bool.false_or] at h
      obtain ⟨j, hj⟩ := mfind_yes l (k + 1) h
      exact ⟨j, by simp only [List.map_cons, seenRow, mfind, e']; exact hj⟩
theorem lookup_no {H : List AObj} {d : TypeDesc} {z k : AV} {i tag : Nat} {rows : List (List AV)} {w : Nat} {K : AV → Prop} (hd : keyFits d k = true) (ho : H[i]? = some ⟨true, tag, w, rows⟩) (hm : mfind k rows 0 = some none) (h : K z) : lookupW d z false (.mref i tag) k H K :=
  ⟨hd, _, ho, rfl, rfl, by rw [hm]; exact h⟩
theorem lookup_yes {H : List AObj} {d : TypeDesc} {z k v : AV} {i tag j : Nat} {rows : List (List AV)} {w : Nat} {K : AV → Prop} (hd : keyFits d k = true) (ho : H[i]? = some ⟨true, tag, w, rows⟩) (hm : mfind k rows 0 = some (some (j, v))) (h : K v) : lookupW d z false (.mref i tag) k H K :=
  ⟨hd, _, ho, rfl, rfl, by rw [hm]; exact h⟩
theorem mupd_no {H : List AObj} {c : Nat} {d : TypeDesc} {k v : AV} {i tag : Nat} {rows : List (List AV)} {w : Nat} {K : AV → List AObj → Nat → Prop} (hd : keyFits d k = true) (ho : H[i]? = some ⟨true, tag, w, rows⟩) (hm : mfind k rows 0 = some none) (hl : rows.length < mx) (h : K .und (H.set i ⟨true, tag, w, rows ++ [[k, v]]⟩) c) : mupdW d (.mref i tag) k v H c K :=
  ⟨hd, _, ho, rfl, rfl, by rw [hm]; exact ⟨hl, h⟩⟩

def seenRows (l : List TFile) (i : Nat) : List (List AV) := (l.take i).map seenRow
theorem seenRows_step {l : List TFile} {i : Nat} (h : i < l.length) : seenRows l (i + 1) = seenRows l i ++ [seenRow l[i]] := by
  unfold seenRows; rw [List.take_succ_eq_append_getElem h, List.map_append]; rfl
theorem seenRows_len {l : List TFile} {i : Nat} : (seenRows l i).length ≤ i := by unfold seenRows; simp; omega
theorem impl_site {s : SL TFile} (hs : okFileS s) : Fnc Tryd.prog 65 [s.av 3 TFile.enc] (.bool (isSite s.list)) := by
  have hn := hs.1
  refine fn_of c65 (by simp [F65]) fun c => ?_
  unfold F65
  simp
  refine loop_drop s.list.length (fun i e H c' => e 0 = s.av 3 TFile.enc ∧ e 3 = .mref 0 c ∧ e 7 = s.av 3 TFile.enc ∧ e 8 = .int .i64 s.list.length ∧ e 9 = .int .i64 i ∧ okTo s.list i = true ∧ H = [⟨true, c, 0, seenRows s.list i⟩]) ⟨rfl, rfl, rfl, rfl, rfl, rfl, rfl⟩ ?_
  intro i e H c' hi ⟨e0, e3, e7, e8, e9, hall, hH⟩ N hN
  subst hH
  simp [e0, e3, e7, e8, e9]
  refine ⟨fun h => ⟨s.list[i], List.getElem?_eq_getElem h, ?_⟩, fun h => ?_⟩
  · have hst := okTo_step h
    have hok := hs.2 _ (List.getElem_mem h)
    rw [hall] at hst
    have htk := seenRows_step h
    generalize hx : s.list[i] = x at hst hok htk
    have bad : (fileOk x && !((s.list.take i).map (·.Path)).contains x.Path) = false → isSite s.list = false := fun hb => okTo_mono (i := i + 1) (by rw [hst]; simpa using hb)
    simp [e0, e3, e7, e8, e9]
    cases hc : ((s.list.take i).map (·.Path)).contains x.Path
    rotate_left
    · obtain ⟨j, hj⟩ : ∃ j, mfind (.str x.Path) (seenRows s.list i) 0 = some (some (j, .bool true)) := mfind_yes _ 0 hc
      refine lookup_yes rfl rfl hj ?_
      simp [e0, e3, e7, e8, e9]
      exact fin_plain ⟨by rw [bad (by rw [hc]; simp)], rfl⟩
    have hm : mfind (.str x.Path) (seenRows s.list i) 0 = some none := mfind_no _ 0 hc
    refine lookup_no rfl rfl hm ?_
    simp [e0, e3, e7, e8, e9]
    refine call_fn0 (impl_isN hok.1) .bool fun _ _ => ?_
    cases h1 : isN x.Path
    · simp [e0, e3, e7, e8, e9]; exact fin_plain ⟨by rw [bad (by simp [fileOk, h1])], rfl⟩
    simp [e0, e3, e7, e8, e9]
    by_cases h3 : (4000 : Int) < x.Source.length
    · simp [e0, e3, e7, e8, e9, h3]; exact fin_plain ⟨by rw [bad (by simp [fileOk]; intros; omega)], rfl⟩
    simp [e0, e3, e7, e8, e9, h3]
    refine call_fn0 (inRange_fn _ _ _) .bool fun _ _ => ?_
    cases h5 : inR x.Version 1 1000000000
    · simp [e0, e3, e7, e8, e9, h3]; exact fin_plain ⟨by rw [bad (by simp [fileOk, h5])], rfl⟩
    simp [e0, e3, e7, e8, e9, h3]
    refine mupd_no rfl rfl hm (by have := seenRows_len (l := s.list) (i := i); omega) ?_
    simp [e0, e3, e7, e8, e9, h3]
    exact hN _ _ _ _ h (sub_one _ _) ⟨by simp [upd, e0], by simp [upd, e3], by simp [upd, e7], by simp [upd, e8], by simp [upd]; exact step64 hn h, by rw [hst]; simp only [fileOk, h1, h5, hc]; simp; omega, by rw [htk]; rfl⟩
  · have : i = s.list.length := by omega
    subst this
    refine fin_plain ⟨?_, rfl⟩
    rw [okTo_all hall]; simp; omega


/-! ### the stamp -/
def verSum (l : List TFile) : Int := (l.map (·.Version)).sum
theorem verSum_step (l : List TFile) {i : Nat} (h : i < l.length) : verSum (l.take (i + 1)) = verSum (l.take i) + l[i].Version := by
  unfold verSum; rw [List.take_succ_eq_append_getElem h, List.map_append, List.sum_append]; simp
theorem site_ver {l : List TFile} (h : isSite l = true) : ∀ x, x ∈ l → 1 ≤ x.Version ∧ x.Version ≤ 1000000000 := fun x hx => by
  simp only [isSite, Bool.and_eq_true, List.all_eq_true] at h
  have := h.1.1 x hx
  simp only [fileOk, Bool.and_eq_true] at this
  exact inR_true this.2
theorem site_len {l : List TFile} (h : isSite l = true) : l.length ≤ 8 := by
  simp only [isSite, Bool.and_eq_true, decide_eq_true_eq] at h; exact h.2
theorem verSum_le {l : List TFile} (h : isSite l = true) (i : Nat) : 0 ≤ verSum (l.take i) ∧ verSum (l.take i) ≤ 1000000000 * l.length := by
  have key : ∀ m : List TFile, (∀ x, x ∈ m → 1 ≤ x.Version ∧ x.Version ≤ 1000000000) → 0 ≤ verSum m ∧ verSum m ≤ 1000000000 * m.length := by
    intro m
    induction m with
    | nil => intro _; simp [verSum]
    | cons x m ih =>
      intro hm
      have h1 := ih fun y hy => hm y (List.mem_cons_of_mem _ hy)
      have h2 := hm x (List.mem_cons_self ..)
      simp only [verSum, List.map_cons, List.sum_cons, List.length_cons] at h1 ⊢
      omega
  have := key (l.take i) fun x hx => site_ver h x (List.mem_of_mem_take hx)
  have hl : (l.take i).length ≤ l.length := by simp; omega
  have h2 : (1000000000 : Int) * (l.take i).length ≤ 1000000000 * l.length := by omega
  omega
def stamp (l : List TFile) : Int := if isSite l then verSum l else 0
theorem spec_stamp {s : SL TFile} (hs : okFileS s) : Fnc Tryd.prog 25 [s.av 3 TFile.enc] (.int .i64 (stamp s.list)) := by
  have hn := hs.1
  refine fn_of c25 (by simp [F25]) fun c => ?_
  unfold F25
  simp
  refine loop_drop s.list.length (fun i e H c' => e 0 = s.av 3 TFile.enc ∧ e 4 = .int .i64 i ∧ e 3 = .int .i64 (verSum (s.list.take i)) ∧ (0 < i → isSite s.list = true) ∧ H = []) ⟨rfl, rfl, rfl, by simp, rfl⟩ ?_
  intro i e H c hi ⟨e0, e4, e3, hpos, hH⟩ N hN
  subst hH
  by_cases h : i < s.list.length
  · have hg : s.list[i]? = some s.list[i] := List.getElem?_eq_getElem h
    have hst := verSum_step s.list h
    have hstep : IntKind.i64.wrap ((i : Int) + 1) = ((i + 1 : Nat) : Int) := by rw [step64 hn h]; rfl
    simp [e0, e4, h]
    refine call_fn0 (spec_site hs) .bool fun _ _ => ?_
    cases hS : isSite s.list
    · have hi0 : i = 0 := by
        rcases Nat.eq_zero_or_pos i with h0 | h0
        · exact h0
        · rw [hpos h0] at hS; cases hS
      subst hi0
      simp [e3]
      exact fin_plain ⟨by simp [stamp, hS, verSum], rfl⟩
    · have hv := verSum_le hS i
      have hx := site_ver hS _ (List.getElem_mem h)
      have hl8 := site_len hS
      generalize s.list[i] = x at hg hst hx
      generalize verSum (s.list.take i) = v at e3 hst hv
      have hw : IntKind.i64.wrap (v + x.Version) = v + x.Version := wrap64 (by omega) (by omega)
      simp [e0, e3, e4, h, getW_of hg, hw, hstep]
      exact hN _ _ _ _ h (List.Sublist.refl _) ⟨by simp [upd, e0], by simp [upd], by simp [upd, hst], fun _ => hS, rfl⟩
  · have hie : i = s.list.length := by omega
    subst hie
    rw [List.take_length] at e3
    simp [e0, e3, e4]
    refine fin_plain ⟨?_, rfl⟩
    unfold stamp
    rcases Nat.eq_zero_or_pos s.list.length with h0 | h0
    · have : s.list = [] := List.length_eq_zero_iff.1 h0
      rw [this]; rfl
    · rw [hpos h0]; rfl
theorem impl_stamp {s : SL TFile} (hs : okFileS s) : Fnc Tryd.prog 27 [s.av 3 TFile.enc] (.int .i64 (stamp s.list)) := by
  have hn := hs.1
  refine fn_of c27 (by simp [F27]) fun c => ?_
  unfold F27
  simp
  refine call_fn0 (impl_site hs) .bool fun _ _ => ?_
  cases hS : isSite s.list
  · simp
    exact fin_plain ⟨by simp [stamp, hS], rfl⟩
  simp
  refine loop_drop s.list.length (fun i e H c' => e 9 = s.av 3 TFile.enc ∧ e 10 = .int .i64 s.list.length ∧ e 11 = .int .i64 i ∧ e 3 = .int .i64 (verSum (s.list.take i)) ∧ H = []) ⟨rfl, rfl, rfl, rfl, rfl⟩ ?_
  intro i e H c hi ⟨e9, e10, e11, e3, hH⟩ N hN
  subst hH
  by_cases h : i < s.list.length
  · have hg : s.list[i]? = some s.list[i] := List.getElem?_eq_getElem h
    have hst := verSum_step s.list h
    have hstep : IntKind.i64.wrap ((i : Int) + 1) = ((i + 1 : Nat) : Int) := by rw [step64 hn h]; rfl
    have hv := verSum_le hS i
    have hx := site_ver hS _ (List.getElem_mem h)
    have hl8 := site_len hS
    generalize s.list[i] = x at hg hst hx
    generalize verSum (s.list.take i) = v at e3 hst hv
    have hw : IntKind.i64.wrap (v + x.Version) = v + x.Version := wrap64 (by omega) (by omega)
    simp [e3, e9, e10, e11, h, getW_of hg, hw, hstep, putA]
    exact hN _ _ _ _ h (List.nil_sublist _) ⟨by simp [upd, e9], by simp [upd, e10], by simp [upd], by simp [upd, hst], rfl⟩
  · have hie : i = s.list.length := by omega
    subst hie
    rw [List.take_length] at e3
    simp [e3, e9, e10, e11]
    exact fin_plain ⟨by simp [stamp, hS], rfl⟩
theorem fileCon {l m : List TFile} (h : l.map TFile.con = m.map TFile.con) : l = m := by
  have e : ∀ l : List TFile, l.map TFile.con = l := fun l => List.map_id' l
  rwa [e, e] at h
theorem law_stamp {s : SL TFile} (hs : okFileS s) (c : Nat) : Con Tryd.prog 6 [s.av 3 TFile.enc] [] c fun r H' _ => r = .bool true ∧ H' = [] := by
  refine con_of c6 (by simp [F6]) ?_
  unfold F6
  simp
  refine call_fn0 (szFileS_fn hs ⟨by omega, by omega⟩) .int fun _ _ => ?_
  simp
  refine ⟨fun _ => fin_plain ⟨rfl, rfl⟩, fun h => ?_⟩
  have hz : szFileS s ≤ 1048576 := by have := (szOf_ge h).2; omega
  have hok : ∀ b : SL TFile, b.list = s.list → okFileS b := fun b hb => by unfold okFileS at hs ⊢; rw [hb]; exact hs
  refine call_tree0 (toFileS_fn hz) fun r1 _ _ ⟨b1, e1, q1⟩ _ => ?_
  subst e1
  have q1 := fileCon q1
  simp
  refine call_fn0 (spec_stamp (hok _ q1)) .int fun _ _ => ?_
  simp
  refine call_tree0 (toFileS_fn hz) fun r2 _ _ ⟨b2, e2, q2⟩ _ => ?_
  subst e2
  have q2 := fileCon q2
  simp
  refine call_fn0 (impl_stamp (hok _ q2)) .int fun _ _ => ?_
  simp [q1, q2]
  refine call_tree0 (toFileS_fn hz) fun r3 _ _ ⟨b3, e3, q3⟩ _ => ?_
  subst e3
  have q3 := fileCon q3
  simp
  refine call_fn0 (eqFileS_fn (by unfold szFileS at hz ⊢; rw [q2]; omega) (by rw [q2, q3])) .bool fun _ _ => ?_
  simp
  exact fin_plain ⟨rfl, rfl⟩
end A
end Go.Proofs.YtfcimcoanlgldaaDoor

/-
  The words that mark strings. No condition.
-/


namespace Go.Proofs.YtfcimcoanlgldaaDoor
namespace A
set_option linter.unusedVariables false
set_option linter.unusedSimpArgs false
set_option maxRecDepth 100000

def mtD : Nat → Nat → List UInt8 → List UInt8
  | 0, _, acc => acc
  | f + 1, k, acc => if k = 0 then acc else mtD f (k / 10) (UInt8.ofNat (48 + k % 10) :: acc)
def mtext (k : Int) : List UInt8 := if k ≤ 0 then [109, 48] else 109 :: mtD 40 k.toNat []
theorem mtD_len : ∀ (f k : Nat) (acc : List UInt8), (mtD f k acc).length ≤ f + acc.length
  | 0, _, _ => by simp [mtD]
  | f + 1, k, acc => by
    unfold mtD
    split
    · omega
    · have := mtD_len f (k / 10) (UInt8.ofNat (48 + k % 10) :: acc)
      rw [List.length_cons] at this; omega
theorem mtext_len (k : Int) : (mtext k).length ≤ 41 := by
  unfold mtext
  split
  · simp
  · have := mtD_len 40 k.toNat []
    simp at this ⊢; omega

theorem mtext_fn {k : Int} (hk : k ≤ 1000000000000000000) : Fnc Tryd.prog 53 [.int .i64 k] (.str (mtext k)) := by
  refine fn_of c53 (by simp [F53]) fun c => ?_
  unfold F53
  simp
  refine ⟨fun h => fin_plain ⟨by simp [mtext, h], rfl⟩, fun h => ?_⟩
  have hm : mtext k = 109 :: mtD 40 k.toNat [] := by simp [mtext]; omega
  refine loop_drop 20 (fun i e H c' => ∃ (n : Nat) (acc : List UInt8), e 0 = .int .i64 n ∧ e 3 = .str acc ∧ acc.length = i ∧ n * 10 ^ i ≤ k.toNat ∧ mtD (40 - i) n acc = mtD 40 k.toNat [] ∧ H = []) ⟨k.toNat, [], by simp; omega, rfl, rfl, by simp, rfl, rfl⟩ ?_
  intro i e H c hi ⟨n, acc, e0, e3, hl, hn, hd, hH⟩ N hN
  subst hH
  simp [e0, e3]
  refine ⟨fun h => ?_, fun h => ?_⟩
  · have hi' : i < 20 := by
      rcases Nat.lt_or_ge i 20 with h1 | h1
      · exact h1
      · have : i = 20 := by omega
        subst this
        omega
    have h10 : ((n : Int)).tmod 10 = ((n % 10 : Nat) : Int) := by rw [Int.tmod_eq_emod_of_nonneg (by omega)]; omega
    have hq : ((n : Int)).tdiv 10 = ((n / 10 : Nat) : Int) := by rw [Int.tdiv_eq_ediv_of_nonneg (by omega)]; omega
    have h48 : (48 : Int) + ((n % 10 : Nat) : Int) = ((48 + n % 10 : Nat) : Int) := by omega
    have hw : IntKind.u8.wrap (IntKind.i64.wrap (48 + ((n % 10 : Nat) : Int))) = ((UInt8.ofNat (48 + n % 10)).toNat : Int) := by rw [h48]; exact wrap_u8 (by omega)
    rw [h10]
    refine toStrW_ref (l := [UInt8.ofNat (48 + n % 10)]) (by rw [hw]; rfl) rfl (by simp [mx]) ?_
    have hm1 : 1 + acc.length ≤ mx := by unfold mx; omega
    have hq' : IntKind.i64.wrap ((n / 10 : Nat) : Int) = ((n / 10 : Nat) : Int) := by
      have : n ≤ k.toNat := Nat.le_trans (Nat.le_mul_of_pos_right n (Nat.pos_of_ne_zero (by simp))) hn
      exact wrap64 (by omega) (by omega)
    simp [e0, e3, hm1, hq, hq', -Int.natCast_ediv]
    refine hN _ _ [] _ hi' (by simp) ⟨n / 10, UInt8.ofNat (48 + n % 10) :: acc, ?_, ?_, by simp [hl], ?_, ?_, rfl⟩
    · simp [upd]
    · simp [upd]
    · refine Nat.le_trans ?_ hn
      rw [Nat.pow_succ, Nat.mul_comm (10 ^ i) 10, ← Nat.mul_assoc]
      exact Nat.mul_le_mul_right _ (Nat.div_mul_le_self n 10)
    · rw [← hd]
      have e40 : 40 - i = (40 - (i + 1)) + 1 := by omega
      rw [e40]
      conv => rhs; unfold mtD
      rw [if_neg (by omega)]
  · have h0 : n = 0 := by omega
    subst h0
    have ha : acc = mtD 40 k.toNat [] := by
      rw [← hd]
      have e40 : 40 - i = (39 - i) + 1 := by omega
      rw [e40]; simp [mtD]
    have hm1 : 1 + acc.length ≤ mx := by unfold mx; omega
    exact ⟨hm1, fin_plain ⟨by rw [hm, ← ha], rfl⟩⟩
end A
end Go.Proofs.YtfcimcoanlgldaaDoor

/-
  Lines kept as0 objects: copies, marks, and what reads marks. No condition.
-/



namespace Go.Proofs.YtfcimcoanlgldaaDoor
namespace A
set_option linter.unusedVariables false
set_option linter.unusedSimpArgs false
set_option maxRecDepth 100000

theorem encI_flat : Flat encI := fun x a ha => by simp [encI] at ha; subst ha; exact ⟨rfl, free_int _ _⟩
def TLine.encO (s : TLine) : List AV := [.int .i64 s.Seq, .int .i64 s.Owner, .int .i64 s.Version, s.Words.ref 1]
def TLine.inn (s : TLine) : List AObj := s.Words.wood 1 encI noInn
theorem TLine.lenO (s : TLine) : s.encO.length = 4 := (rfl)
@[simp] theorem TLine.o0 (s : TLine) (K : AV → Prop) : getW s.encO 0 K = K (.int .i64 s.Seq) := by simp [TLine.encO]
@[simp] theorem TLine.o1 (s : TLine) (K : AV → Prop) : getW s.encO 1 K = K (.int .i64 s.Owner) := by simp [TLine.encO]
@[simp] theorem TLine.o2 (s : TLine) (K : AV → Prop) : getW s.encO 2 K = K (.int .i64 s.Version) := by simp [TLine.encO]
@[simp] theorem TLine.o3 (s : TLine) (K : AV → Prop) : getW s.encO 3 K = K (s.Words.ref 1) := by simp [TLine.encO]
theorem TLine.freeO : ∀ (x : TLine) a, a ∈ x.encO → Free a := fun x a ha => by
  simp [TLine.encO] at ha
  rcases ha with rfl | rfl | rfl | rfl
  · exact free_int _ _
  · exact free_int _ _
  · exact free_int _ _
  · exact free_ref _ _
theorem TLine.freeI : ∀ (x : TLine) o, o ∈ x.inn → ∀ T, AvRows T o := fun x o ho => flat_free encI_flat _ _ o ho
theorem TLine.viewO {S : List AObj} (x : TLine) (h : ∀ o, o ∈ x.inn → o ∈ S) : ∀ (j : Nat) (a a' : AV), x.encO[j]? = some a → x.enc[j]? = some a' → View S a a' := fun j a a' h1 h2 => by
  match j, h1, h2 with
  | 0, h1, h2 => simp [TLine.encO] at h1; simp [TLine.enc] at h2; subst h1; subst h2; exact .refl _
  | 1, h1, h2 => simp [TLine.encO] at h1; simp [TLine.enc] at h2; subst h1; subst h2; exact .refl _
  | 2, h1, h2 => simp [TLine.encO] at h1; simp [TLine.enc] at h2; subst h1; subst h2; exact .refl _
  | 3, h1, h2 => simp [TLine.encO] at h1; simp [TLine.enc] at h2; subst h1; subst h2; exact view_flat h encI_flat.cells
  | j + 4, h1, h2 => simp [TLine.encO] at h1
/-- Lines, seen as0 trees. -/
theorem view_line {S : List AObj} {s : SL TLine} (hs : ∀ o, o ∈ s.wood 4 TLine.encO TLine.inn → o ∈ S) : View S (s.ref 4) (s.av 4 TLine.enc) :=
  view_wood hs (fun x => TLine.cells x) (fun _ => rfl) fun x h => TLine.viewO x h

def mkLine (k : Int) (x : TLine) : TLine := ⟨k, k + 1, k + 2, x.Words.marks mkI cI (k + 3)⟩
def cLine (x : TLine) : Nat := 3 + x.Words.list.length
theorem mkLine_encO (k : Int) (x : TLine) : (mkLine k x).encO = [.int .i64 k, .int .i64 (k + 1), .int .i64 (k + 2), x.Words.ref 1] := by
  simp [mkLine, TLine.encO, SL.marks_ref]
theorem mkLine_tags (k : Int) (x : TLine) : tags (mkLine k x).inn = tags x.inn := flat_marks (enc := encI) (w := 1) mkI cI (k + 3) x.Words

theorem mixed_flat {α : Type} {mk : Int → α → α} {cnt : α → Nat} {k : Int} {l : List α} {inn : α → List AObj} {i : Nat} (h : i < l.length) :
    (mixed mk cnt k l i).flatMap inn = (mks mk cnt k (l.take i)).flatMap inn ++ inn l[i] ++ (l.drop (i + 1)).flatMap inn := by
  unfold mixed
  rw [List.drop_eq_getElem_cons h, List.flatMap_append, List.flatMap_cons, List.append_assoc]
theorem mixed_flat' {α : Type} {mk : Int → α → α} {cnt : α → Nat} {k : Int} {l : List α} {inn : α → List AObj} {i : Nat} (h : i < l.length) :
    (mixed mk cnt k l (i + 1)).flatMap inn = (mks mk cnt k (l.take i)).flatMap inn ++ inn (mk (k + szL cnt (l.take i)) l[i]) ++ (l.drop (i + 1)).flatMap inn := by
  unfold mixed
  rw [mks_step mk cnt k l h, List.flatMap_append, List.flatMap_append]
  simp

theorem markLine_nil (k : Int) : Fnc Tryd.prog 101 [.nsl, .int .i64 k] (.int .i64 k) := by
  refine fn_of c101 (by simp [F101]) fun c => ?_
  unfold F101
  simp
  refine loop_drop 0 (fun i e H c' => e 0 = .nsl ∧ e 1 = .int .i64 k ∧ e 5 = .int .i64 0 ∧ H = []) ⟨rfl, rfl, rfl, rfl⟩ ?_
  intro i e H c hi ⟨e0, e1, e5, hH⟩ N hN
  subst hH
  simp [e0, e1, e5]
  exact fin_plain ⟨rfl, rfl⟩
theorem heldLine_nil (k : Int) : Fnc Tryd.prog 107 [.nsl, .int .i64 k] (.int .i64 k) := by
  refine fn_of c107 (by simp [F107]) fun c => ?_
  unfold F107
  simp
  refine loop_drop 0 (fun i e H c' => e 0 = .nsl ∧ e 1 = .int .i64 k ∧ e 5 = .int .i64 0 ∧ H = []) ⟨rfl, rfl, rfl, rfl⟩ ?_
  intro i e H c hi ⟨e0, e1, e5, hH⟩ N hN
  subst hH
  simp [e0, e1, e5]
  exact fin_plain ⟨rfl, rfl⟩

theorem markLine_con1 {l : List TLine} (hz : szL cLine l ≤ 8388608) (hw : ∀ x, x ∈ l → x.Words.list.length ≤ 1048576) {k : Int} (hk : 0 ≤ k ∧ k ≤ 549755813888) (t c : Nat) :
    Con Tryd.prog 101 [.ref 0 t 4 l.length, .int .i64 k] (wood t 4 TLine.encO TLine.inn l) c fun r H' _ => r = .int .i64 (k + szL cLine l) ∧ H' = wood t 4 TLine.encO TLine.inn (mks mkLine cLine k l) := by
  have hln : l.length ≤ szL cLine l := by
    have : ∀ l : List TLine, l.length ≤ szL cLine l := fun l => by
      induction l with
      | nil => simp
      | cons x l ih => simp [szL, cLine] at ih ⊢; omega
    exact this l
  refine con_of c101 (by simp [F101]) ?_
  unfold F101
  simp
  refine loop_drop l.length (fun i e H c' => e 0 = .ref 0 t 4 l.length ∧ e 1 = .int .i64 (k + szL cLine (l.take i)) ∧ e 5 = .int .i64 i ∧ H = ⟨false, t, 4, (mixed mkLine cLine k l i).map TLine.encO⟩ :: (mixed mkLine cLine k l i).flatMap TLine.inn) ⟨rfl, by simp [szL], rfl, by rw [mixed_zero]; rfl⟩ ?_
  intro i e H c hi ⟨e0, e1, e5, hH⟩ N hN
  subst hH
  have hs := mixed_set mkLine cLine k l (i := i)
  have hst := fun h : i < l.length => szL_step cLine l h
  have hle := szL_le cLine l i
  have hfl := fun h : i < l.length => mixed_flat (mk := mkLine) (cnt := cLine) (k := k) (inn := TLine.inn) h
  have hfl' := fun h : i < l.length => mixed_flat' (mk := mkLine) (cnt := cLine) (k := k) (inn := TLine.inn) h
  generalize hjj : k + (szL cLine (l.take i) : Int) = j at e1 hs hfl'
  have w1 : IntKind.i64.wrap (j + 1) = j + 1 := wrap64 (by omega) (by omega)
  have w2 : IntKind.i64.wrap (j + 1 + 1) = j + 1 + 1 := wrap64 (by omega) (by omega)
  have w3 : IntKind.i64.wrap (j + 1 + 1 + 1) = j + 1 + 1 + 1 := wrap64 (by omega) (by omega)
  simp [e0, e1, e5]
  refine ⟨fun h => ?_, fun h => ?_⟩
  · have hs := hs h
    have hst := hst h
    have hg := mixed_get mkLine cLine k l h
    have hx := hw _ (List.getElem_mem h)
    rw [hfl h]
    have hfl' := hfl' h
    generalize l[i] = x at hs hst hg hx hfl'
    refine ⟨h, x, hg, ?_⟩
    simp [e0, e1, e5, h, mixed_len, w1, w2, w3, putA, TLine.encO]
    refine call_midr (f := 141) (B := x.inn) (markI_con c141 (s := x.Words) hx (k := j + 1 + 1 + 1) ⟨by omega, by omega⟩ c) (Views.refl _ _) fun r B' c' hc ⟨q1, q2⟩ => ?_
    subst q1; subst q2
    refine ⟨flat_marks (enc := encI) (w := 1) mkI cI _ x.Words, .int, fun o ho => flat_free encI_flat _ _ o ho _, ?_⟩
    simp [e0, e1, e5]
    refine hN _ _ _ _ h (List.Sublist.refl _) ⟨by simp [upd, e0], ?_, by simp [upd]; exact step64 (by unfold mx; omega) h, ?_⟩
    · simp [upd, hst, cLine]; omega
    · rw [hfl', ← hs, List.map_set, mkLine_encO]
      simp [mkLine, TLine.inn, Int.add_assoc]
  · have h1 : i = l.length := by omega
    subst h1
    refine fin_all ⟨?_, ?_⟩
    · rw [← hjj]; simp
    · rw [mixed_all]; rfl

theorem heldLine_fn1 {l : List TLine} (hz : szL cLine l ≤ 8388608) (hw : ∀ x, x ∈ l → x.Words.list.length ≤ 1048576) {k : Int} (hk : 0 ≤ k ∧ k ≤ 549755813888) (t : Nat) :
    Fnc Tryd.prog 107 [(SL.mk t (mks mkLine cLine k l)).av 4 TLine.enc, .int .i64 k] (.int .i64 (k + szL cLine l)) := by
  have hln : l.length ≤ szL cLine l := by
    have : ∀ l : List TLine, l.length ≤ szL cLine l := fun l => by
      induction l with
      | nil => simp
      | cons x l ih => simp [szL, cLine] at ih ⊢; omega
    exact this l
  refine fn_of c107 (by simp [F107]) fun c => ?_
  unfold F107
  simp
  have hlen := mks_len mkLine cLine k l
  refine loop_drop l.length (fun i e H c' => e 0 = (SL.mk t (mks mkLine cLine k l)).av 4 TLine.enc ∧ e 1 = .int .i64 (k + szL cLine (l.take i)) ∧ e 5 = .int .i64 i ∧ H = []) ⟨rfl, by simp [szL], rfl, rfl⟩ ?_
  intro i e H c hi ⟨e0, e1, e5, hH⟩ N hN
  subst hH
  have hg := fun h : i < l.length => mks_get mkLine cLine k l h
  have hst := fun h : i < l.length => szL_step cLine l h
  have hle := szL_le cLine l i
  have hle' := szL_le cLine l (i + 1)
  generalize hjj : k + (szL cLine (l.take i) : Int) = j at e1 hg
  have w1 : IntKind.i64.wrap (j + 1) = j + 1 := wrap64 (by omega) (by omega)
  have w2 : IntKind.i64.wrap (j + 1 + 1) = j + 1 + 1 := wrap64 (by omega) (by omega)
  have w3 : IntKind.i64.wrap (j + 1 + 1 + 1) = j + 1 + 1 + 1 := wrap64 (by omega) (by omega)
  simp [e0, e1, e5, hlen]
  refine ⟨fun h => ?_, fun h => ?_⟩
  · have hg := hg h
    have hst := hst h
    have hx := hw _ (List.getElem_mem h)
    generalize l[i] = x at hg hst hx
    have f0 : (mkLine j x).Seq = j := rfl
    have f1 : (mkLine j x).Owner = j + 1 := rfl
    have f2 : (mkLine j x).Version = j + 1 + 1 := by simp [mkLine]; omega
    have f3 : (mkLine j x).Words = x.Words.marks mkI cI (j + 1 + 1 + 1) := by simp [mkLine]; congr 1; omega
    refine ⟨_, hg, ?_⟩
    simp [e0, e1, e5, h, w1, w2, w3, f0, f1, f2, f3]
    refine ⟨_, hg, ?_⟩
    simp [e0, e1, e5, h, w1, w2, w3, f0, f1, f2, f3]
    refine ⟨_, hg, ?_⟩
    simp [e0, e1, e5, h, w1, w2, w3, f0, f1, f2, f3]
    refine ⟨_, hg, ?_⟩
    simp [e0, e1, e5, h, w1, w2, w3, f0, f1, f2, f3]
    refine call_fn0 (heldI_fn c142 (s := x.Words) hx ⟨by omega, by omega⟩) .int fun _ _ => ?_
    have hp : ¬ (j + 1 + 1 + 1 + (x.Words.list.length : Int) < 0) := by omega
    simp [e0, e1, e5, h, w1, w2, w3, hp]
    refine hN _ _ _ _ h (List.Sublist.refl _) ⟨by simp [upd, e0], ?_, by simp [upd]; exact step64 (by unfold mx; omega) h, rfl⟩
    simp [upd, hst, cLine]; omega
  · have h1 : i = l.length := by omega
    subst h1
    refine fin_plain ⟨?_, rfl⟩
    rw [← hjj]; simp

theorem markLine_con {s : SL TLine} (hz : szL cLine s.list ≤ 8388608) (hw : ∀ x, x ∈ s.list → x.Words.list.length ≤ 1048576) {k : Int} (hk : 0 ≤ k ∧ k ≤ 549755813888) (c : Nat) :
    Con Tryd.prog 101 [s.ref 4, .int .i64 k] (s.wood 4 TLine.encO TLine.inn) c fun r H' _ => r = .int .i64 (k + szL cLine s.list) ∧ H' = (s.marks mkLine cLine k).wood 4 TLine.encO TLine.inn := by
  cases s with
  | nil =>
    have := markLine_nil k c
    simpa [SL.ref, SL.wood, SL.marks, szL] using this
  | mk t l => exact markLine_con1 (l := l) hz hw hk t c
theorem heldLine_fn {s : SL TLine} (hz : szL cLine s.list ≤ 8388608) (hw : ∀ x, x ∈ s.list → x.Words.list.length ≤ 1048576) {k : Int} (hk : 0 ≤ k ∧ k ≤ 549755813888) :
    Fnc Tryd.prog 107 [(s.marks mkLine cLine k).av 4 TLine.enc, .int .i64 k] (.int .i64 (k + szL cLine s.list)) := by
  cases s with
  | nil =>
    have := heldLine_nil k
    simpa [SL.av, SL.marks, szL] using this
  | mk t l => exact heldLine_fn1 (l := l) hz hw hk t
theorem line_first {K : AV → List AObj → Nat → Prop} {C : List AObj} {s : SL TLine} {c : Nat} (hz : szL cLine s.list ≤ 8388608) (hw : ∀ x, x ∈ s.list → x.Words.list.length ≤ 1048576)
    (kk : ∀ c', c ≤ c' → K (.int .i64 (1 + szL cLine s.list)) ((s.marks mkLine cLine 1).wood 4 TLine.encO TLine.inn ++ C) c') : CallW Tryd.prog 101 [s.ref 4, .int .i64 1] (s.wood 4 TLine.encO TLine.inn ++ C) c K :=
  mark_mid (A := []) (markLine_con hz hw ⟨by omega, by omega⟩ c) mkLine_tags TLine.freeO TLine.freeI kk
theorem line_last {K : AV → List AObj → Nat → Prop} {A : List AObj} {s : SL TLine} {c : Nat} (hz : szL cLine s.list ≤ 8388608) (hw : ∀ x, x ∈ s.list → x.Words.list.length ≤ 1048576)
    (kk : ∀ c', c ≤ c' → K (.int .i64 (1 + szL cLine s.list)) (A ++ (s.marks mkLine cLine 1).wood 4 TLine.encO TLine.inn) c') : CallW Tryd.prog 101 [s.ref 4, .int .i64 1] (A ++ s.wood 4 TLine.encO TLine.inn) c K := by
  have := mark_mid (A := A) (C := []) (K := K) (markLine_con hz hw (k := 1) ⟨by omega, by omega⟩ c) mkLine_tags TLine.freeO TLine.freeI (by simpa using kk)
  simpa using this
theorem szLine_bounds {l : List TLine} (h : l.length + szL TLine.sz l ≤ 1048576) : szL cLine l ≤ 8388608 ∧ (∀ x, x ∈ l → x.Words.list.length ≤ 1048576) ∧ l.length ≤ 1048576 := by
  have key : ∀ l : List TLine, szL cLine l ≤ 3 * l.length + szL TLine.sz l := fun l => by
    induction l with
    | nil => simp [szL]
    | cons x l ih =>
      have e : x.sz = x.Words.list.length := rfl
      simp only [szL, List.map_cons, List.sum_cons, List.length_cons, cLine, e] at ih ⊢; omega
  refine ⟨by have := key l; omega, fun x hx => ?_, by omega⟩
  have := szL_mem (sz := TLine.sz) hx
  have e : x.sz = x.Words.list.length := rfl
  omega

theorem line_from {c : Nat} {s : SL TLine} (ht : ∀ t, t ∈ tags (s.wood 4 TLine.encO TLine.inn) → c ≤ t) : From c (s.av 4 TLine.enc) := by
  cases s with
  | nil => exact from_nsl c
  | mk t l =>
    have ht' : ∀ u, u ∈ t :: tags (l.flatMap TLine.inn) → c ≤ u := ht
    refine from_slc (ht' t (List.mem_cons_self ..)) fun row hr a ha => ?_
    obtain ⟨x, hx, rfl⟩ := List.mem_map.1 hr
    simp [TLine.enc] at ha
    rcases ha with rfl | rfl | rfl | rfl
    · simp
    · simp
    · simp
    · refine flat_from encI_flat fun u hu => ht' u (List.mem_cons_of_mem _ ?_)
      obtain ⟨o, ho, rfl⟩ := of_mem_tags hu
      exact mem_tags (List.mem_flatMap.2 ⟨x, hx, ho⟩)
theorem line_tr {f : Nat} {args : List AV} {Q : SL TLine → Prop} (h : ∀ c, Con Tryd.prog f args [] c fun r O _ => ∃ b : SL TLine, r = b.ref 4 ∧ O = b.wood 4 TLine.encO TLine.inn ∧ Q b) :
    Tr Tryd.prog f args fun _ r => ∃ b : SL TLine, r = b.av 4 TLine.enc ∧ Q b :=
  tr_of h fun c r O c' _ ⟨b, h1, h2, h3⟩ ht => ⟨b.av 4 TLine.enc, by rw [h1]; exact view_line (by rw [h2]; exact fun _ h => h), ⟨b, rfl, h3⟩, line_from (by rw [← h2]; exact ht)⟩
theorem line_tr2 {f : Nat} {args : List AV} {Q : SL TLine → List AV → Prop} (hF : ∀ b l, Q b l → ∀ a, a ∈ l → Free a) (h : ∀ c, Con Tryd.prog f args [] c fun r O _ => ∃ (b : SL TLine) (l : List AV), r = .tup (b.ref 4 :: l) ∧ O = b.wood 4 TLine.encO TLine.inn ∧ Q b l) :
    Tr Tryd.prog f args fun _ r => ∃ (b : SL TLine) (l : List AV), r = .tup (b.av 4 TLine.enc :: l) ∧ Q b l :=
  tr_of h fun c r O c' _ ⟨b, l, h1, h2, h3⟩ ht => ⟨.tup (b.av 4 TLine.enc :: l), by rw [h1]; exact view_tup (.cons (view_line (by rw [h2]; exact fun _ h => h)) (Views.refl _ _)), ⟨b, l, rfl, h3⟩,
    from_tup fun a ha => by
      rcases List.mem_cons.1 ha with rfl | ha
      · exact line_from (by rw [← h2]; exact ht)
      · exact (hF b l h3 a ha).from c⟩
theorem view_lmarks {S : List AObj} {s : SL TLine} {k : Int} (hs : ∀ o, o ∈ (s.marks mkLine cLine k).wood 4 TLine.encO TLine.inn → o ∈ S) : View S (s.ref 4) ((s.marks mkLine cLine k).av 4 TLine.enc) := by
  rw [← SL.marks_ref (mk := mkLine) (cnt := cLine) k s]
  exact view_line hs
end A
end Go.Proofs.YtfcimcoanlgldaaDoor
