import Derived.Test.YtfcimcoanlgldaaDoorB07

/-
  Paths, brought into their plain form by the reference and by the program: the same plain function. No condition.
-/




namespace Go.Proofs.YtfcimcoanlgldaaDoor
namespace A
set_option linter.unusedVariables false
set_option linter.unusedSimpArgs false
set_option maxRecDepth 100000

/-! ### the plain function -/
def pC (b : UInt8) : Bool := isA b || isD b || decide (b.toNat = 95) || decide (b.toNat = 45) || decide (b.toNat = 46)
def pPart (l : List UInt8) : Bool := l.all pC && decide (l.length ≤ 20)
def pstep (o : List (List UInt8)) (x : List UInt8) : Option (List (List UInt8)) :=
  if x = [] ∨ x = [46] then some o else if x = [46, 46] then (if o = [] then none else some o.dropLast) else if pPart x then some (o ++ [x]) else none
def pfold : List (List UInt8) → List (List UInt8) → Option (List (List UInt8))
  | o, [] => some o
  | o, x :: r => (pstep o x).bind fun o' => pfold o' r
def splitP (l : List UInt8) : Option (List (List UInt8)) := pfold [] (Lib.split l [47])
def normP (l : List UInt8) : Option (List UInt8) := if 400 < l.length then none else (splitP l).bind fun o => if inR (joinL [47] o).length 1 60 then some (joinL [47] o) else none
def isN (l : List UInt8) : Bool := decide (normP l = some l)
theorem pstep_ok {o o' : List (List UInt8)} {x : List UInt8} (h : pstep o x = some o') (ho : ∀ y, y ∈ o → pPart y = true) : (∀ y, y ∈ o' → pPart y = true) ∧ o'.length ≤ o.length + 1 := by
  unfold pstep at h
  split at h
  · cases h; exact ⟨ho, by omega⟩
  · split at h
    · split at h
      · cases h
      · cases h; exact ⟨fun y hy => ho y ((List.dropLast_sublist o).subset hy), by simp; omega⟩
    · split at h
      · cases h
        refine ⟨fun y hy => ?_, by simp⟩
        rcases List.mem_append.1 hy with hy | hy
        · exact ho y hy
        · simp at hy; subst hy; assumption
      · cases h
theorem pfold_ok : ∀ {r o o' : List (List UInt8)}, pfold o r = some o' → (∀ y, y ∈ o → pPart y = true) → (∀ y, y ∈ o' → pPart y = true) ∧ o'.length ≤ o.length + r.length
  | [], o, o', h, ho => by simp [pfold] at h; subst h; exact ⟨ho, by simp⟩
  | x :: r, o, o', h, ho => by
    simp only [pfold] at h
    cases hp : pstep o x with
    | none => rw [hp] at h; cases h
    | some o1 =>
      rw [hp] at h
      obtain ⟨h1, h2⟩ := pstep_ok hp ho
      obtain ⟨h3, h4⟩ := pfold_ok h h1
      exact ⟨h3, by simp; omega⟩
theorem pPart_len {l : List UInt8} (h : pPart l = true) : l.length ≤ 20 := by
  simp only [pPart, Bool.and_eq_true, decide_eq_true_eq] at h; exact h.2
theorem splitP_ok {l : List UInt8} {o : List (List UInt8)} (h : splitP l = some o) : (∀ y, y ∈ o → pPart y = true) ∧ o.length ≤ l.length + 2 := by
  obtain ⟨h1, h2⟩ := pfold_ok h (by simp)
  have := split_len l [47]
  exact ⟨h1, by simp at h2; omega⟩
theorem szL_mul {α : Type} (f : α → Nat) (k : Nat) : ∀ (l : List α), (∀ x, x ∈ l → f x ≤ k) → szL f l ≤ k * l.length
  | [], _ => by simp [szL]
  | x :: l, h => by
    have := szL_mul f k l fun y hy => h y (List.mem_cons_of_mem _ hy)
    have hx := h x (List.mem_cons_self ..)
    simp [szL, Nat.mul_add] at this ⊢; omega
theorem join_short {l : List UInt8} {o : List (List UInt8)} (h : splitP l = some o) (i : Nat) : (joinL [47] (o.take i)).length ≤ 22 * (l.length + 2) := by
  obtain ⟨h1, h2⟩ := splitP_ok h
  have h3 := joinL_len (sep := [47]) (by simp) (o.take i)
  have h4 := szL_mul (fun x : List UInt8 => x.length + 2) 22 (o.take i) fun x hx => by have := pPart_len (h1 x (List.mem_of_mem_take hx)); omega
  have h5 : (o.take i).length ≤ o.length := by simp; omega
  have h6 : 22 * (o.take i).length ≤ 22 * (l.length + 2) := Nat.mul_le_mul_left _ (by omega)
  omega

/-! ### a part -/
theorem spec_part {l : List UInt8} (hl : l.length ≤ mx) : Fnc Tryd.prog 154 [.str l] (.bool (l.all pC && inR l.length 1 20)) := by
  refine fn_of c154 (by simp [F154]) fun c => ?_
  unfold F154
  simp
  refine loop_drop l.length (fun i e H c' => e 0 = .str l ∧ e 3 = .int .i64 i ∧ (l.take i).all pC = true ∧ H = []) ⟨rfl, rfl, by simp, rfl⟩ ?_
  intro i e H c hi ⟨e0, e3, ha, hH⟩ N hN
  subst hH
  by_cases h : i < l.length
  · have hb : l[i]? = some l[i] := List.getElem?_eq_getElem h
    have bad : pC l[i] = false → (l.all pC && inR l.length 1 20) = false := fun hb => by
      have : l.all pC = false := by rw [List.all_eq_false]; exact ⟨_, List.getElem_mem h, by simp [hb]⟩
      rw [this]; rfl
    have good : pC l[i] = true → (l.take (i + 1)).all pC = true := fun hx => all_step ha h hx
    have hstep : IntKind.i64.wrap ((i : Int) + 1) = ((i + 1 : Nat) : Int) := by rw [step64 hl h]; rfl
    generalize l[i] = b at hb bad good
    have hLA := isL_A b
    have hpc : pC b = (isL b || isD b || decide (b.toNat = 45) || decide (b.toNat = 46)) := by
      rw [hLA]; unfold pC; cases isA b <;> cases isD b <;> cases decide (b.toNat = 95) <;> rfl
    simp [e0, e3, h, getW_of hb]
    refine call_fn0 (letter_fn b) .bool fun _ _ => ?_
    cases hL : isL b
    · simp [e0, e3, h, getW_of hb]
      refine call_fn0 (digit_fn b) .bool fun _ _ => ?_
      cases hD : isD b
      · by_cases h45 : b.toNat = 45
        · have k45 : (b.toNat : Int) = 45 := by omega
          simp [e0, e3, h, getW_of hb, k45, hstep]
          exact hN _ _ _ _ h (List.Sublist.refl _) ⟨by simp [upd, e0], by simp [upd], good (by simp [hpc, h45]), rfl⟩
        · have k45 : ¬ (b.toNat : Int) = 45 := by omega
          by_cases h46 : b.toNat = 46
          · have k46 : (b.toNat : Int) = 46 := by omega
            simp [e0, e3, h, getW_of hb, k45, k46, hstep]
            exact hN _ _ _ _ h (List.Sublist.refl _) ⟨by simp [upd, e0], by simp [upd], good (by simp [hpc, h46]), rfl⟩
          · have k46 : ¬ (b.toNat : Int) = 46 := by omega
            simp [e0, e3, h, getW_of hb, k45, k46, hstep]
            exact fin_plain ⟨by rw [bad (by simp [hpc, hL, hD, h45, h46])], rfl⟩
      · simp [e0, e3, h, getW_of hb, hstep]
        exact hN _ _ _ _ h (List.Sublist.refl _) ⟨by simp [upd, e0], by simp [upd], good (by simp [hpc, hD]), rfl⟩
    · simp [e0, e3, h, getW_of hb, hstep]
      exact hN _ _ _ _ h (List.Sublist.refl _) ⟨by simp [upd, e0], by simp [upd], good (by simp [hpc, hL]), rfl⟩
  · have h1 : i = l.length := by omega
    subst h1
    rw [List.take_length] at ha
    simp [e0, e3]
    refine call_fn0 (l1In_fn _ _ _) .bool fun _ _ => ?_
    simp
    exact fin_plain ⟨by simp [ha], rfl⟩
theorem impl_part {l : List UInt8} (hl : l.length ≤ mx) : Fnc Tryd.prog 158 [.str l] (.bool (pPart l)) := by
  refine fn_of c158 (by simp [F158]) fun c => ?_
  unfold F158
  simp
  refine loop_drop l.length (fun i e H c' => e 0 = .str l ∧ e 3 = .int .i64 i ∧ (l.take i).all pC = true ∧ H = []) ⟨rfl, rfl, by simp, rfl⟩ ?_
  intro i e H c hi ⟨e0, e3, ha, hH⟩ N hN
  subst hH
  by_cases h : i < l.length
  · have hb : l[i]? = some l[i] := List.getElem?_eq_getElem h
    have bad : pC l[i] = false → pPart l = false := fun hb => by
      have : l.all pC = false := by rw [List.all_eq_false]; exact ⟨_, List.getElem_mem h, by simp [hb]⟩
      unfold pPart; rw [this]; rfl
    have good : pC l[i] = true → (l.take (i + 1)).all pC = true := fun hx => all_step ha h hx
    have hstep : IntKind.i64.wrap ((i : Int) + 1) = ((i + 1 : Nat) : Int) := by rw [step64 hl h]; rfl
    generalize l[i] = b at hb bad good
    simp [e0, e3, h, getW_of hb]
    refine call_fn0 (isLetter_fn b) .bool fun _ _ => ?_
    cases hL : isA b
    · simp [e0, e3, h, getW_of hb]
      refine call_fn0 (isDigit_fn b) .bool fun _ _ => ?_
      cases hD : isD b
      · by_cases h95 : b.toNat = 95
        · have k95 : (b.toNat : Int) = 95 := by omega
          simp [e0, e3, h, getW_of hb, k95, hstep]
          exact hN _ _ _ _ h (List.Sublist.refl _) ⟨by simp [upd, e0], by simp [upd], good (by simp [pC, h95]), rfl⟩
        have k95 : ¬ (b.toNat : Int) = 95 := by omega
        by_cases h45 : b.toNat = 45
        · have k45 : (b.toNat : Int) = 45 := by omega
          simp [e0, e3, h, getW_of hb, k45, k95, hstep]
          exact hN _ _ _ _ h (List.Sublist.refl _) ⟨by simp [upd, e0], by simp [upd], good (by simp [pC, h45]), rfl⟩
        · have k45 : ¬ (b.toNat : Int) = 45 := by omega
          by_cases h46 : b.toNat = 46
          · have k46 : (b.toNat : Int) = 46 := by omega
            simp [e0, e3, h, getW_of hb, k45, k46, k95, hstep]
            exact hN _ _ _ _ h (List.Sublist.refl _) ⟨by simp [upd, e0], by simp [upd], good (by simp [pC, h46]), rfl⟩
          · have k46 : ¬ (b.toNat : Int) = 46 := by omega
            simp [e0, e3, h, getW_of hb, k45, k46, k95, hstep]
            exact fin_plain ⟨by rw [bad (by simp [pC, hL, hD, h45, h46, h95])], rfl⟩
      · simp [e0, e3, h, getW_of hb, hstep]
        exact hN _ _ _ _ h (List.Sublist.refl _) ⟨by simp [upd, e0], by simp [upd], good (by simp [pC, hD]), rfl⟩
    · simp [e0, e3, h, getW_of hb, hstep]
      exact hN _ _ _ _ h (List.Sublist.refl _) ⟨by simp [upd, e0], by simp [upd], good (by simp [pC, hL]), rfl⟩
  · have h1 : i = l.length := by omega
    subst h1
    rw [List.take_length] at ha
    have k : ((l.length : Int) ≤ 20) = (l.length ≤ 20) := by simp only [eq_iff_iff]; omega
    simp [e0, e3]
    exact fin_plain ⟨by simp [pPart, ha, k], rfl⟩

/-! ### the parts -/
def SplQ (l : List UInt8) (r : AV) (O : List AObj) : Prop :=
  (splitP l = none ∧ r = .tup [.nsl, .bool false] ∧ O = []) ∨
  ∃ (t : Nat) (rows : List (List AV)), r = .tup [.ref 0 t 1 ((splitP l).getD []).length, .bool (splitP l).isSome] ∧ O = [⟨false, t, 1, rows⟩] ∧ rows.take ((splitP l).getD []).length = ((splitP l).getD []).map encS
theorem cut_le {rows : List (List AV)} {o : List (List UInt8)} (h : rows.take o.length = o.map encS) : o.length ≤ rows.length := by
  have := congrArg List.length h
  simp at this; omega
theorem cut_view {i t : Nat} {rows : List (List AV)} {o : List (List UInt8)} {S : List AObj} (h : rows.take o.length = o.map encS) (hS : (⟨false, t, 1, rows⟩ : AObj) ∈ S) : View S (.ref i t 1 o.length) ((SL.mk t o).av 1 encS) := by
  have hx : ∀ (r : Nat) (x' : List AV), (o.map encS)[r]? = some x' → rows[r]? = some x' := fun r x' hr => by
    have hlt : r < o.length := by have := (List.getElem?_eq_some_iff.1 hr).1; simpa using this
    rw [← h, List.getElem?_take_of_lt hlt] at hr; exact hr
  refine .ref hS (cut_le h) (by simp) (fun r x x' h1 h2 => ?_) (fun r j x a h1 h2 => ?_) fun r j x x' a a' h1 h2 h3 h4 => ?_
  · rw [hx r x' h2] at h1; cases h1; rfl
  · obtain ⟨y, _, rfl⟩ := List.mem_map.1 (List.mem_of_getElem? h1)
    exact (encS_flat y a (List.mem_of_getElem? h2)).1
  · rw [hx r x' h2] at h1; cases h1; rw [h3] at h4; cases h4; exact .refl _
theorem cut_last {rows : List (List AV)} {o : List (List UInt8)} (h : rows.take o.length = o.map encS) : rows.take o.dropLast.length = o.dropLast.map encS := by
  rw [List.length_dropLast, List.dropLast_eq_take, List.map_take, ← h, List.take_take]
  congr 1; omega
theorem spl_tr {f : Nat} {l : List UInt8} (h : ∀ c, Con Tryd.prog f [.str l] [] c fun r O _ => SplQ l r O) :
    Tr Tryd.prog f [.str l] fun _ r => ∃ b : SL (List UInt8), r = .tup [b.av 1 encS, .bool (splitP l).isSome] ∧ b.list = (splitP l).getD [] :=
  tr_of h fun c r O c' _ hq ht => by
    rcases hq with ⟨h1, h2, h3⟩ | ⟨t, rows, h2, h3, h4⟩
    · exact ⟨.tup [.nsl, .bool false], by rw [h2]; exact .refl _, ⟨.nil, by rw [h1]; rfl, by rw [h1]; rfl⟩, from_tup (by simp)⟩
    · refine ⟨.tup [(SL.mk t ((splitP l).getD [])).av 1 encS, .bool (splitP l).isSome], by rw [h2]; exact view_tup (.cons (cut_view h4 (by rw [h3]; simp)) (Views.refl _ _)), ⟨_, rfl, rfl⟩, from_tup fun a ha => ?_⟩
      rcases List.mem_cons.1 ha with rfl | ha
      · refine flat_from encS_flat fun u hu => ht u ?_
        rw [flat_wood] at hu
        rw [h3]; simpa [tags] using hu
      · simp at ha; subst ha; simp
theorem spec_splitP {l : List UInt8} (hl : l.length ≤ 1048576) (c : Nat) : Con Tryd.prog 127 [.str l] [] c fun r O _ => SplQ l r O := by
  refine con_of c127 (by simp [F127]) ?_
  unfold F127
  simp
  refine loop_drop (l.length + 1) (fun i e H c' => e 0 = .str l ∧ e 6 = .int .i64 i ∧ ∃ (a : Nat) (o : List (List UInt8)) (t : Nat) (rows : List (List AV)), e 5 = .int .i64 a ∧ e 4 = .ref 0 t 1 o.length ∧ H = [⟨false, t, 1, rows⟩] ∧ rows.take o.length = o.map encS ∧ o.length ≤ i ∧
      (i ≤ l.length → a ≤ i ∧ (∀ j, a ≤ j → j < i → Lib.occAt l [47] j = false) ∧ splitP l = pfold o (Lib.split (l.drop a) [47])) ∧ (l.length < i → splitP l = some o)) ?_ ?_
  · exact ⟨rfl, rfl, 0, [], c, [], rfl, rfl, rfl, rfl, by simp, fun _ => ⟨by omega, fun j h1 h2 => by omega, by simp [splitP]⟩, fun h => by omega⟩
  intro i e H c' hi ⟨e0, e6, a, o, t, rows, e5, e4, hH, hrows, hoi, hinv, hend⟩ N hN
  subst hH
  have hcl := cut_le hrows
  have hm1 : (o.length + 1) * 16 ≤ 140737488355328 := by omega
  have hm2 : o.length + 1 ≤ mx := by unfold mx; omega
  by_cases hle : i ≤ l.length
  case neg =>
    have ho := hend (by omega)
    simp [e0, e4, e6, hle]
    exact fin_all (.inr ⟨t, rows, by simp [ho], rfl, by simp [ho, hrows]⟩)
  obtain ⟨ha, hno, hsp⟩ := hinv hle
  have hstep : IntKind.i64.wrap ((i : Int) + 1) = ((i + 1 : Nat) : Int) := by rw [wrap64 (by omega) (by omega)]; rfl
  by_cases hA : i < l.length ∧ l[i]? ≠ some 47
  · obtain ⟨h, hx⟩ := hA
    have hb : l[i]? = some l[i] := List.getElem?_eq_getElem h
    generalize l[i] = b at hb
    have hb47 : ¬ (b.toNat : Int) = 47 := fun e => hx (by rw [hb]; congr 1; exact UInt8.toNat_inj.1 (by have : (47 : UInt8).toNat = 47 := rfl; omega))
    simp [e0, e6, hle, h, getW_of hb, hb47, hstep]
    refine hN _ _ _ _ (by omega) (List.Sublist.refl _) ⟨by simp [upd, e0], by simp [upd], a, o, t, rows, by simp [upd, e5], by simp [upd, e4], rfl, hrows, by omega, fun _ => ⟨by omega, fun j h1 h2 => ?_, hsp⟩, fun h2 => by omega⟩
    rcases Nat.lt_or_ge j i with h3 | h3
    · exact hno j h1 h3
    · have : j = i := by omega
      subst this; rw [occ_one]; simp [hx]
  have hocc : i < l.length → l[i]? = some 47 := fun h => Classical.byContradiction fun hx => hA ⟨h, hx⟩
  obtain ⟨x, hx⟩ : ∃ x, (l.take i).drop a = x := ⟨_, rfl⟩
  obtain ⟨R, hR⟩ : ∃ R, (if i < l.length then Lib.split (l.drop (i + 1)) [47] else []) = R := ⟨_, rfl⟩
  have hcons : Lib.split (l.drop a) [47] = x :: R := by
    rw [← hx, ← hR]
    by_cases h : i < l.length
    · rw [if_pos h]
      exact split_at (by simp) ha hle hno (by rw [occ_one]; simp [hocc h])
    · have hie : i = l.length := by omega
      subst hie
      rw [if_neg h, List.take_length]; exact split_end (by simp) hno
  rw [hcons] at hsp
  simp only [pfold] at hsp
  have hxl : x.length ≤ mx := by rw [← hx]; simp; unfold mx; omega
  have next : ∀ (o' : List (List UInt8)), pstep o x = some o' → (i + 1 ≤ l.length → i + 1 ≤ i + 1 ∧ (∀ j, i + 1 ≤ j → j < i + 1 → Lib.occAt l [47] j = false) ∧ splitP l = pfold o' (Lib.split (l.drop (i + 1)) [47])) ∧ (l.length < i + 1 → splitP l = some o') := fun o' ho' => by
    rw [ho'] at hsp
    simp only [Option.bind_some] at hsp
    refine ⟨fun h2 => ⟨Nat.le_refl _, fun j h3 h4 => by omega, ?_⟩, fun h2 => ?_⟩
    · rw [hsp, ← hR, if_pos (by omega)]
    · rw [hsp, ← hR, if_neg (by omega)]; rfl
  have fails : pstep o x = none → splitP l = none := fun h => by rw [hsp, h]; rfl
  have hsl : ∀ K : AV → Prop, strSliceW (.str l) (some (.int .i64 a)) (some (.int .i64 i)) K = K (.str x) := fun K => by rw [← hx]; simp [ha, hle]
  rcases Nat.lt_or_ge i l.length with h | h
  focus
    simp [e0, e5, e6, hle, h, getW_of (hocc h), hstep, hsl, -strSliceW_str]
  rotate_left
  focus
    have h' : ¬ i < l.length := by omega
    simp [e0, e5, e6, hle, h', hstep, hsl, -strSliceW_str]
  rotate_left
  all_goals
    by_cases x0 : x = []
    · have hp : pstep o x = some o := by simp [pstep, x0]
      obtain ⟨n1, n2⟩ := next o hp
      simp [x0, e6, hstep]
      exact hN _ _ _ _ (by omega) (List.Sublist.refl _) ⟨by simp [upd, e0], by simp [upd], i + 1, o, t, rows, by simp [upd], by simp [upd, e4], rfl, hrows, by omega, n1, n2⟩
    by_cases x1 : x = [46]
    · have hp : pstep o x = some o := by simp [pstep, x1]
      obtain ⟨n1, n2⟩ := next o hp
      simp [x1, e6, hstep]
      exact hN _ _ _ _ (by omega) (List.Sublist.refl _) ⟨by simp [upd, e0], by simp [upd], i + 1, o, t, rows, by simp [upd], by simp [upd, e4], rfl, hrows, by omega, n1, n2⟩
    by_cases x2 : x = [46, 46]
    · by_cases o0 : o = []
      · have hp := fails (by simp [pstep, x2, o0])
        simp [x2, e4, o0]
        exact fin_sub (Hk := [⟨false, _, 1, []⟩]) ((List.Sublist.refl _).cons _) (view_tup (.cons .name (Views.refl _ _))) (.inr ⟨_, [], by rw [hp]; rfl, rfl, by rw [hp]; rfl⟩)
      · have hp : pstep o x = some o.dropLast := by simp [pstep, x2, o0]
        obtain ⟨n1, n2⟩ := next _ hp
        have hol : 0 < o.length := List.length_pos_iff.2 o0
        have hw : IntKind.i64.wrap ((o.length : Int) - 1) = ((o.length - 1 : Nat) : Int) := by rw [wrap64 (by omega) (by omega)]; omega
        have hol' : ¬ ((o.length : Int) = 0) := by omega
        simp [x2, e4, e6, o0, hw, hstep]
        exact hN _ _ _ _ (by omega) (List.Sublist.refl _) ⟨by simp [upd, e0], by simp [upd], i + 1, o.dropLast, t, rows, by simp [upd], by simp [upd], rfl, cut_last hrows, by simp; omega, n1, n2⟩
    simp [x0, x1, x2]
    refine call_fn0 (spec_part hxl) .bool fun _ _ => ?_
    have hlen : 0 < x.length := List.length_pos_iff.2 x0
    have hpp : (x.all pC && inR x.length 1 20) = pPart x := by
      unfold pPart inR
      have : ((1 : Int) ≤ x.length) := by omega
      have k : ((x.length : Int) ≤ 20) = (x.length ≤ 20) := by simp only [eq_iff_iff]; omega
      simp [this, k]
    rw [hpp]
    cases hP : pPart x
    · have hp := fails (by simp [pstep, x0, x1, x2, hP])
      simp
      exact fin_sub (Hk := [⟨false, _, 1, []⟩]) ((List.Sublist.refl _).cons _) (view_tup (.cons .name (Views.refl _ _))) (.inr ⟨_, [], by rw [hp]; rfl, rfl, by rw [hp]; rfl⟩)
    · have hp : pstep o x = some (o ++ [x]) := by simp [pstep, x0, x1, x2, hP]
      obtain ⟨n1, n2⟩ := next _ hp
      simp [e4, e6, hm1, hm2, cutW, hcl, hrows, hstep]
      exact hN _ _ _ _ (by omega) (sub_one _ _) ⟨by simp [upd, e0], by simp [upd], i + 1, o ++ [x], _, _, by simp [upd], by simp [upd] <;> rfl, rfl, by rw [List.map_append]; exact List.take_of_length_le (by simp), by simp; omega, n1, n2⟩
theorem impl_splitP {l : List UInt8} (hl : l.length ≤ 1048576) (c : Nat) : Con Tryd.prog 131 [.str l] [] c fun r O _ => SplQ l r O := by
  refine con_of c131 (by simp [F131]) ?_
  unfold F131
  simp
  refine call_tree0 (split_tr (by omega) (by simp)) fun r _ hc1 ⟨b, e1, q1⟩ _ => ?_
  subst e1
  simp
  have hpl := split_len l [47]
  have hpm := fun x => split_mem (l := l) (sep := [47]) (x := x)
  have hspl : splitP l = pfold [] b.list := by unfold splitP; rw [q1]
  rw [← q1] at hpl hpm
  refine loop_drop b.list.length (fun i e H c' => e 9 = b.av 1 encS ∧ e 10 = .int .i64 b.list.length ∧ e 11 = .int .i64 i ∧ ∃ (o : List (List UInt8)) (t : Nat) (rows : List (List AV)), e 4 = .ref 0 t 1 o.length ∧ H = [⟨false, t, 1, rows⟩] ∧ rows.take o.length = o.map encS ∧ o.length ≤ i ∧ splitP l = pfold o (b.list.drop i)) ?_ ?_
  · exact ⟨rfl, rfl, rfl, [], c, [], rfl, rfl, rfl, by simp, by simpa using hspl⟩
  intro i e H c' hi ⟨e9, e10, e11, o, t, rows, e4, hH, hrows, hoi, hsp⟩ N hN
  subst hH
  have hcl := cut_le hrows
  have hm1 : (o.length + 1) * 16 ≤ 140737488355328 := by omega
  have hm2 : o.length + 1 ≤ mx := by unfold mx; omega
  by_cases h : i < b.list.length
  case neg =>
    have hie : i = b.list.length := by omega
    subst hie
    rw [List.drop_length] at hsp
    have ho : splitP l = some o := hsp
    simp [e4, e9, e10, e11]
    exact fin_all (.inr ⟨t, rows, by simp [ho], rfl, by simp [ho, hrows]⟩)
  have hg : b.list[i]? = some b.list[i] := List.getElem?_eq_getElem h
  have hstep : IntKind.i64.wrap ((i : Int) + 1) = ((i + 1 : Nat) : Int) := by rw [step64 (by unfold mx; omega) h]; rfl
  have hxl := hpm _ (List.getElem_mem h)
  rw [List.drop_eq_getElem_cons h] at hsp
  simp only [pfold] at hsp
  generalize b.list[i] = x at hg hxl hsp
  have hxm : x.length ≤ mx := by unfold mx; omega
  have next : ∀ (o' : List (List UInt8)), pstep o x = some o' → splitP l = pfold o' (b.list.drop (i + 1)) := fun o' ho' => by
    rw [ho'] at hsp; exact hsp
  have fails : pstep o x = none → splitP l = none := fun h => by rw [hsp, h]; rfl
  simp [e9, e10, e11, h, getW_of hg]
  by_cases x0 : x = []
  · have hp : pstep o x = some o := by simp [pstep, x0]
    simp [x0, e11, hstep]
    exact hN _ _ _ _ (by omega) (List.Sublist.refl _) ⟨by simp [upd, e9], by simp [upd, e10], by simp [upd], o, t, rows, by simp [upd, e4], rfl, hrows, by omega, next o hp⟩
  by_cases x1 : x = [46]
  · have hp : pstep o x = some o := by simp [pstep, x1]
    simp [x1, e11, hstep]
    exact hN _ _ _ _ (by omega) (List.Sublist.refl _) ⟨by simp [upd, e9], by simp [upd, e10], by simp [upd], o, t, rows, by simp [upd, e4], rfl, hrows, by omega, next o hp⟩
  by_cases x2 : x = [46, 46]
  · by_cases o0 : o = []
    · have hp := fails (by simp [pstep, x2, o0])
      simp [x2, e4, o0]
      exact fin_sub (List.nil_sublist _) (.refl _) (.inl ⟨hp, rfl, rfl⟩)
    · have hp : pstep o x = some o.dropLast := by simp [pstep, x2, o0]
      have hol : 0 < o.length := List.length_pos_iff.2 o0
      have hw : IntKind.i64.wrap ((o.length : Int) - 1) = ((o.length - 1 : Nat) : Int) := by rw [wrap64 (by omega) (by omega)]; omega
      have hol' : ¬ ((o.length : Int) = 0) := by omega
      simp [x2, e4, e11, o0, hw, hstep]
      exact hN _ _ _ _ (by omega) (List.Sublist.refl _) ⟨by simp [upd, e9], by simp [upd, e10], by simp [upd], o.dropLast, t, rows, by simp [upd], rfl, cut_last hrows, by simp; omega, next _ hp⟩
  simp [x0, x1, x2]
  refine call_fn0 (impl_part hxm) .bool fun _ _ => ?_
  cases hP : pPart x
  · have hp := fails (by simp [pstep, x0, x1, x2, hP])
    simp
    exact fin_sub (List.nil_sublist _) (.refl _) (.inl ⟨hp, rfl, rfl⟩)
  · have hp : pstep o x = some (o ++ [x]) := by simp [pstep, x0, x1, x2, hP]
    simp [e4, e11, hm1, hm2, cutW, hcl, hrows, hstep]
    exact hN _ _ _ _ (by omega) (sub_one _ _) ⟨by simp [upd, e9], by simp [upd, e10], by simp [upd], o ++ [x], _, _, by simp [upd] <;> rfl, rfl, by rw [List.map_append]; exact List.take_of_length_le (by simp), by simp; omega, next _ hp⟩

/-! ### the plain form -/
def normA (l : List UInt8) : List AV := [.str ((normP l).getD []), .bool (normP l).isSome]
theorem free_norm (l : List UInt8) : Free (.tup (normA l)) := free_tup fun a ha => by
  simp [normA] at ha
  rcases ha with rfl | rfl
  · exact free_str _
  · exact free_bool _
theorem joinL_step (l : List (List UInt8)) {i : Nat} (h : i < l.length) : joinL [47] (l.take (i + 1)) = (if 0 < i then joinL [47] (l.take i) ++ [47] else joinL [47] (l.take i)) ++ l[i] := by
  rw [List.take_succ_eq_append_getElem h, joinL_snoc]
  simp only [List.length_take, Nat.min_eq_left (Nat.le_of_lt h)]
  by_cases h0 : 0 < i
  · rw [if_pos h0, if_pos h0]
  · have : i = 0 := by omega
    subst this; simp [joinL_nil]
theorem join_part {l : List UInt8} (i : Nat) : (joinL [47] (((splitP l).getD []).take i)).length ≤ 22 * (l.length + 2) := by
  cases h : splitP l with
  | none => simp [joinL_nil]
  | some o => exact join_short h i
theorem part_len {l x : List UInt8} (h : x ∈ (splitP l).getD []) : x.length ≤ 20 := by
  cases hs : splitP l with
  | none => rw [hs] at h; cases h
  | some o => rw [hs] at h; exact pPart_len ((splitP_ok hs).1 x h)
theorem parts_len (l : List UInt8) : ((splitP l).getD []).length ≤ l.length + 2 := by
  cases hs : splitP l with
  | none => simp
  | some o => exact (splitP_ok hs).2
theorem norm_eq {l : List UInt8} (h : ¬ 400 < l.length) : normP l = if (splitP l).isSome && inR (joinL [47] ((splitP l).getD [])).length 1 60 then some (joinL [47] ((splitP l).getD [])) else none := by
  unfold normP
  rw [if_neg h]
  cases splitP l <;> simp
theorem spec_norm {l : List UInt8} (hl : l.length ≤ mx) : Fnc Tryd.prog 79 [.str l] (.tup (normA l)) := by
  refine fn_of c79 (by simp [F79]) fun c => ?_
  unfold F79
  by_cases h400 : 400 < l.length
  · have k : (400 : Int) < l.length := by omega
    simp [k]
    exact fin_plain ⟨by simp [normA, normP, h400], rfl⟩
  have k : ¬ (400 : Int) < l.length := by omega
  simp [k]
  refine call_tree0 (spl_tr fun c => spec_splitP (by omega) c) fun r _ hc1 ⟨b, e1, q1⟩ _ => ?_
  subst e1
  simp
  have hj := fun i => join_part (l := l) i
  have hpl := parts_len l
  have hpm := fun x => part_len (l := l) (x := x)
  have hne := norm_eq h400
  rw [← q1] at hj hpl hpm hne
  refine loop_drop b.list.length (fun i e H c' => e 4 = b.av 1 encS ∧ e 5 = .bool (splitP l).isSome ∧ e 6 = .str (joinL [47] (b.list.take i)) ∧ e 7 = .int .i64 i ∧ H = []) ⟨rfl, rfl, by simp [upd, joinL_nil], rfl, rfl⟩ ?_
  intro i e H c' hi ⟨e4, e5, e6, e7, hH⟩ N hN
  subst hH
  by_cases h : i < b.list.length
  · have hg : b.list[i]? = some b.list[i] := List.getElem?_eq_getElem h
    have hstep : IntKind.i64.wrap ((i : Int) + 1) = ((i + 1 : Nat) : Int) := by rw [step64 (by unfold mx; omega) h]; rfl
    have hxl := hpm _ (List.getElem_mem h)
    have hjs := joinL_step b.list h
    have hji := hj i
    generalize b.list[i] = x at hg hxl hjs
    generalize joinL [47] (b.list.take i) = J at e6 hjs hji
    by_cases h0 : 0 < i
    · rw [if_pos h0] at hjs
      simp [e4, e6, e7, h, h0, getW_of hg, hstep]
      refine ⟨by unfold mx; omega, by unfold mx; omega, ?_⟩
      exact hN _ _ _ _ h (List.Sublist.refl _) ⟨by simp [upd, e4], by simp [upd, e5], by simp [upd, hjs], by simp [upd], rfl⟩
    · rw [if_neg h0] at hjs
      simp [e4, e6, e7, h, h0, getW_of hg, hstep]
      refine ⟨by unfold mx; omega, ?_⟩
      exact hN _ _ _ _ h (List.Sublist.refl _) ⟨by simp [upd, e4], by simp [upd, e5], by simp [upd, hjs], by simp [upd], rfl⟩
  · have h1 : i = b.list.length := by omega
    subst h1
    rw [List.take_length] at e6
    generalize joinL [47] b.list = J at e6 hne
    cases hs : (splitP l).isSome
    · rw [hs] at hne e5
      simp at hne
      simp [e4, e5, e6, e7]
      exact fin_plain ⟨by simp [normA, hne], rfl⟩
    · rw [hs] at hne e5
      simp [e4, e5, e6, e7]
      refine call_fn0 (l1In_fn _ _ _) .bool fun _ _ => ?_
      cases hr : inR J.length 1 60
      · rw [hr] at hne
        simp at hne
        simp
        exact fin_plain ⟨by simp [normA, hne], rfl⟩
      · rw [hr] at hne
        simp at hne
        simp [e6]
        exact fin_plain ⟨by simp [normA, hne], rfl⟩
theorem impl_norm {l : List UInt8} (hl : l.length ≤ mx) : Fnc Tryd.prog 84 [.str l] (.tup (normA l)) := by
  refine fn_of c84 (by simp [F84]) fun c => ?_
  unfold F84
  by_cases h400 : 400 < l.length
  · have k : (400 : Int) < l.length := by omega
    simp [k]
    exact fin_plain ⟨by simp [normA, normP, h400], rfl⟩
  have k : ¬ (400 : Int) < l.length := by omega
  simp [k]
  refine call_tree0 (spl_tr fun c => impl_splitP (by omega) c) fun r _ hc1 ⟨b, e1, q1⟩ _ => ?_
  subst e1
  simp
  have hj := join_part (l := l) ((splitP l).getD []).length
  have hpl := parts_len l
  have hne := norm_eq h400
  rw [List.take_length] at hj
  rw [← q1] at hj hpl hne
  have hjn : Fnc Tryd.prog 132 [b.av 1 encS, .str [47]] (.str (joinL [47] b.list)) := by
    cases b with
    | nil => exact join_nil_fn _
    | mk t xs => exact join_fn (by simp at hj ⊢; omega) (by simp at hpl ⊢; omega)
  refine call_fn0 hjn .str fun _ _ => ?_
  generalize joinL [47] b.list = J at hne
  cases hs : (splitP l).isSome
  · rw [hs] at hne
    simp at hne
    simp
    exact fin_plain ⟨by simp [normA, hne], rfl⟩
  · rw [hs] at hne
    simp
    refine call_fn0 (inRange_fn _ _ _) .bool fun _ _ => ?_
    cases hr : inR J.length 1 60
    · rw [hr] at hne
      simp at hne
      simp
      exact fin_plain ⟨by simp [normA, hne], rfl⟩
    · rw [hr] at hne
      simp at hne
      simp
      exact fin_plain ⟨by simp [normA, hne], rfl⟩
theorem isN_norm (l : List UInt8) : isN l = ((normP l).isSome && decide ((normP l).getD [] = l)) := by
  unfold isN
  cases normP l <;> simp
theorem spec_isN {l : List UInt8} (hl : l.length ≤ mx) : Fnc Tryd.prog 68 [.str l] (.bool (isN l)) := by
  refine fn_of c68 (by simp [F68]) fun c => ?_
  unfold F68
  simp
  refine call_fn0 (spec_norm hl) (free_norm _ _) fun _ _ => ?_
  rw [isN_norm]
  cases h : (normP l).isSome <;> simp [normA, h]
  · exact fin_plain ⟨rfl, rfl⟩
  · exact fin_plain ⟨rfl, rfl⟩
theorem impl_isN {l : List UInt8} (hl : l.length ≤ mx) : Fnc Tryd.prog 71 [.str l] (.bool (isN l)) := by
  refine fn_of c71 (by simp [F71]) fun c => ?_
  unfold F71
  simp
  refine call_fn0 (impl_norm hl) (free_norm _ _) fun _ _ => ?_
  rw [isN_norm]
  cases h : (normP l).isSome <;> simp [normA, h]
  · exact fin_plain ⟨rfl, rfl⟩
  · exact fin_plain ⟨rfl, rfl⟩
end A
end Go.Proofs.YtfcimcoanlgldaaDoor

/-
  UnescapeURL of the reference and of the program are the same plain function. No condition.
-/

namespace Go.Proofs.YtfcimcoanlgldaaDoor
namespace A
set_option linter.unusedVariables false
set_option linter.unusedSimpArgs false
set_option maxRecDepth 100000

/-- a hexadecimal digit's value -/
def hxv (b : UInt8) : Option Nat := if inR b.toNat 48 57 then some (b.toNat - 48) else if inR b.toNat 65 70 then some (b.toNat - 55) else if inR b.toNat 97 102 then some (b.toNat - 87) else none
theorem hxv_lt {b : UInt8} {n : Nat} (h : hxv b = some n) : n < 16 := by
  unfold hxv at h
  split at h
  · rename_i h1; have := inR_true h1; cases h; omega
  · split at h
    · rename_i h1; have := inR_true h1; cases h; omega
    · split at h
      · rename_i h1; have := inR_true h1; cases h; omega
      · cases h
def stp (a : Option Nat) (b : UInt8) : Option Nat := a.bind fun a => (hxv b).map (16 * a + ·)
def two (l : List UInt8) : Option Nat :=
  match l with
  | x :: y :: _ => stp (stp (some 0) x) y
  | _ => none
theorem two_lt {l : List UInt8} {n : Nat} (h : two l = some n) : n < 256 := by
  match l with
  | [] => cases h
  | [_] => cases h
  | x :: y :: r =>
    simp only [two, stp, Option.bind_some, Nat.mul_zero, Nat.zero_add] at h
    cases hx : hxv x with
    | none => rw [hx] at h; cases h
    | some m =>
      rw [hx] at h
      cases hy : hxv y with
      | none => rw [hy] at h; cases h
      | some k =>
        rw [hy] at h
        have h1 := hxv_lt hx
        have h2 := hxv_lt hy
        simp at h
        omega
theorem drop_two {l : List UInt8} {p : Nat} {x y : UInt8} (hx : l[p]? = some x) (hy : l[p + 1]? = some y) : l.drop p = x :: y :: l.drop (p + 2) := by
  obtain ⟨h1, rfl⟩ := List.getElem?_eq_some_iff.1 hx
  obtain ⟨h2, rfl⟩ := List.getElem?_eq_some_iff.1 hy
  rw [List.drop_eq_getElem_cons h1, List.drop_eq_getElem_cons h2]
theorem two_short {l : List UInt8} {p : Nat} (h : l.length < p + 2) : two (l.drop p) = none := by
  have hl : (l.drop p).length < 2 := by rw [List.length_drop]; omega
  match l.drop p, hl with
  | [], _ => rfl
  | [_], _ => rfl

/-- what is read out of a text of an address -/
def une (l : List UInt8) : Option (List UInt8) :=
  match l with
  | [] => some []
  | b :: r =>
    if b.toNat = 43 then (une r).map (32 :: ·)
    else if b.toNat = 37 then (two r).bind fun n => (une (r.drop 2)).map (UInt8.ofNat n :: ·)
    else (une r).map (b :: ·)
termination_by l.length
decreasing_by all_goals simp_wf; all_goals omega
theorem une_nil : une [] = some [] := by rw [une]
theorem une_len : ∀ (n : Nat) (l o : List UInt8), l.length ≤ n → une l = some o → o.length ≤ l.length
  | n, [], o, _, h => by rw [une_nil] at h; cases h; simp
  | 0, b :: r, o, hn, h => by simp at hn
  | n + 1, b :: r, o, hn, h => by
    rw [une] at h
    simp at hn
    split at h
    · cases hu : une r with
      | none => rw [hu] at h; cases h
      | some o' => rw [hu] at h; cases h; have := une_len n r o' hn hu; simp; omega
    · split at h
      · cases ht : two r with
        | none => rw [ht] at h; cases h
        | some k =>
          rw [ht] at h
          simp at h
          obtain ⟨o', hu, rfl⟩ := h
          have := une_len n (r.drop 2) o' (by simp; omega) hu
          simp at this ⊢; omega
      · cases hu : une r with
        | none => rw [hu] at h; cases h
        | some o' => rw [hu] at h; cases h; have := une_len n r o' hn hu; simp; omega
def unO (l : List UInt8) : List AV := [.str ((une l).getD []), .bool (une l).isSome]

theorem l4Two_fn {l : List UInt8} {p : Nat} (hl : l.length ≤ 4611686018427387904) (hp : p ≤ l.length) :
    Fnc Tryd.prog 167 [.str l, .int .i64 p, .bool true] (.int .i64 (match two (l.drop p) with | some n => (n : Int) | none => -1)) := by
  refine fn_of c167 (by simp [F167]) fun c => ?_
  unfold F167
  have w1 : IntKind.i64.wrap ((l.length : Int) - 2) = (l.length : Int) - 2 := wrap64 (by omega) (by omega)
  simp [w1]
  refine ⟨fun h => fin_plain ⟨by rw [two_short (by omega)], rfl⟩, fun h => ?_⟩
  have hx : l[p]? = some l[p] := List.getElem?_eq_getElem (by omega)
  have hy : l[p + 1]? = some l[p + 1] := List.getElem?_eq_getElem (by omega)
  have hd := drop_two hx hy
  generalize l[p] = x at hx hd
  generalize l[p + 1] = y at hy hd
  rw [hd]
  show irW _ _ _ _ _ _
  refine loop_drop 2 (fun i e H c' => e 0 = .str l ∧ e 1 = .int .i64 p ∧ e 2 = .bool true ∧ e 8 = .int .i64 i ∧ (∃ a : Nat, ([x, y].take i).foldl stp (some 0) = some a ∧ a < 256 ∧ e 7 = .int .i64 a) ∧ H = []) ⟨rfl, rfl, rfl, rfl, ⟨0, rfl, by omega, rfl⟩, rfl⟩ ?_
  intro i e H c hi ⟨e0, e1, e2, e8, ⟨a, ha, ha2, e7⟩, hH⟩ N hN
  subst hH
  have hi3 : i = 0 ∨ i = 1 ∨ i = 2 := by omega
  rcases hi3 with rfl | rfl | rfl
  case inr.inr =>
    simp [e7, e8]
    exact fin_plain ⟨by simp at ha; simp [two, ha], rfl⟩
  all_goals
    have bx := x.toNat_lt
    have by' := y.toNat_lt
    simp at ha
  case inl =>
    subst ha
    simp (disch := first | rfl | decide | omega | simp) [wrap64, e0, e1, e2, e7, e8, getW_of hx]
    refine call_fn0 (l1In_fn _ _ _) .bool fun _ _ => ?_
    cases h1 : inR x.toNat 48 57
    case true =>
      have g1 := inR_true h1
      have hv : hxv x = some (x.toNat - 48) := by simp [hxv, h1]
      simp (disch := first | rfl | decide | omega | simp) [wrap64, e0, e1, e2, e7, e8]
      refine hN _ _ _ _ (by omega) (List.Sublist.refl _) ⟨by simp [upd, e0], by simp [upd, e1], by simp [upd, e2], by simp [upd, wrap64], ⟨x.toNat - 48, by simp [stp, hv], by omega, by simp [upd]; omega⟩, rfl⟩
    simp (disch := first | rfl | decide | omega | simp) [wrap64, e0, e1, e2, e7, e8]
    refine call_fn0 (l1In_fn _ _ _) .bool fun _ _ => ?_
    cases h2 : inR x.toNat 65 70
    case true =>
      have g1 := inR_true h2
      have hv : hxv x = some (x.toNat - 55) := by simp [hxv, h1, h2]
      simp (disch := first | rfl | decide | omega | simp) [wrap64, e0, e1, e2, e7, e8]
      refine hN _ _ _ _ (by omega) (List.Sublist.refl _) ⟨by simp [upd, e0], by simp [upd, e1], by simp [upd, e2], by simp [upd, wrap64], ⟨x.toNat - 55, by simp [stp, hv], by omega, by simp [upd]; omega⟩, rfl⟩
    simp (disch := first | rfl | decide | omega | simp) [wrap64, e0, e1, e2, e7, e8]
    refine call_fn0 (l1In_fn _ _ _) .bool fun _ _ => ?_
    cases h3 : inR x.toNat 97 102
    case true =>
      have g1 := inR_true h3
      have hv : hxv x = some (x.toNat - 87) := by simp [hxv, h1, h2, h3]
      simp (disch := first | rfl | decide | omega | simp) [wrap64, e0, e1, e2, e7, e8]
      refine hN _ _ _ _ (by omega) (List.Sublist.refl _) ⟨by simp [upd, e0], by simp [upd, e1], by simp [upd, e2], by simp [upd, wrap64], ⟨x.toNat - 87, by simp [stp, hv], by omega, by simp [upd]; omega⟩, rfl⟩
    simp (disch := first | rfl | decide | omega | simp) [wrap64, e0, e1, e2, e7, e8]
    exact fin_plain ⟨by simp [two, stp, hxv, h1, h2, h3], rfl⟩
  case inr.inl =>
    have ha' : hxv x = some a := by
      cases hv : hxv x with
      | none => simp [stp, hv] at ha
      | some v => simp [stp, hv] at ha; rw [ha]
    have hal := hxv_lt ha'
    simp (disch := first | rfl | decide | omega | simp) [wrap64, e0, e1, e2, e7, e8, getW_of hy]
    refine ⟨by omega, ?_⟩
    refine call_fn0 (l1In_fn _ _ _) .bool fun _ _ => ?_
    cases h1 : inR y.toNat 48 57
    case true =>
      have g1 := inR_true h1
      have hv : hxv y = some (y.toNat - 48) := by simp [hxv, h1]
      simp (disch := first | rfl | decide | omega | simp) [wrap64, e0, e1, e2, e7, e8]
      refine hN _ _ _ _ (by omega) (List.Sublist.refl _) ⟨by simp [upd, e0], by simp [upd, e1], by simp [upd, e2], by simp [upd, wrap64], ⟨16 * a + (y.toNat - 48), by simp [stp, hv, ha'], by omega, by simp [upd]; omega⟩, rfl⟩
    simp (disch := first | rfl | decide | omega | simp) [wrap64, e0, e1, e2, e7, e8]
    refine call_fn0 (l1In_fn _ _ _) .bool fun _ _ => ?_
    cases h2 : inR y.toNat 65 70
    case true =>
      have g1 := inR_true h2
      have hv : hxv y = some (y.toNat - 55) := by simp [hxv, h1, h2]
      simp (disch := first | rfl | decide | omega | simp) [wrap64, e0, e1, e2, e7, e8]
      refine hN _ _ _ _ (by omega) (List.Sublist.refl _) ⟨by simp [upd, e0], by simp [upd, e1], by simp [upd, e2], by simp [upd, wrap64], ⟨16 * a + (y.toNat - 55), by simp [stp, hv, ha'], by omega, by simp [upd]; omega⟩, rfl⟩
    simp (disch := first | rfl | decide | omega | simp) [wrap64, e0, e1, e2, e7, e8]
    refine call_fn0 (l1In_fn _ _ _) .bool fun _ _ => ?_
    cases h3 : inR y.toNat 97 102
    case true =>
      have g1 := inR_true h3
      have hv : hxv y = some (y.toNat - 87) := by simp [hxv, h1, h2, h3]
      simp (disch := first | rfl | decide | omega | simp) [wrap64, e0, e1, e2, e7, e8]
      refine hN _ _ _ _ (by omega) (List.Sublist.refl _) ⟨by simp [upd, e0], by simp [upd, e1], by simp [upd, e2], by simp [upd, wrap64], ⟨16 * a + (y.toNat - 87), by simp [stp, hv, ha'], by omega, by simp [upd]; omega⟩, rfl⟩
    simp (disch := first | rfl | decide | omega | simp) [wrap64, e0, e1, e2, e7, e8]
    exact fin_plain ⟨by simp [two, stp, hxv, h1, h2, h3, ha'], rfl⟩

theorem hexValue_fn (b : UInt8) : Fnc Tryd.prog 168 [.int .u8 b.toNat, .bool true] (.tup [.int .u8 ((hxv b).getD 0 : Nat), .bool (hxv b).isSome]) := by
  refine fn_of c168 (by simp [F168]) fun c => ?_
  unfold F168
  have bx := b.toNat_lt
  simp
  refine call_fn0 (isDigit_fn b) .bool fun _ _ => ?_
  cases h1 : isD b
  case true =>
    have g1 := inR_true (show inR b.toNat 48 57 = true from h1)
    simp
    exact fin_plain ⟨by simp [hxv, show inR b.toNat 48 57 = true from h1, IntKind.wrap_u8]; omega, rfl⟩
  have h1' : inR b.toNat 48 57 = false := h1
  by_cases g2 : 65 ≤ b.toNat
  · have k2 : (65 : Int) ≤ b.toNat := by omega
    by_cases g3 : b.toNat ≤ 70
    · have k3 : (b.toNat : Int) ≤ 70 := by omega
      have i2 : inR b.toNat 65 70 = true := by simp [inR, k2, k3]
      simp [k2, k3]
      exact fin_plain ⟨by simp [hxv, h1', i2, IntKind.wrap_u8]; omega, rfl⟩
    · have k3 : ¬ (b.toNat : Int) ≤ 70 := by omega
      have i2 : inR b.toNat 65 70 = false := by simp [inR, k2, k3]
      by_cases g4 : 97 ≤ b.toNat
      · have k4 : (97 : Int) ≤ b.toNat := by omega
        by_cases g5 : b.toNat ≤ 102
        · have k5 : (b.toNat : Int) ≤ 102 := by omega
          have i3 : inR b.toNat 97 102 = true := by simp [inR, k4, k5]
          simp [k2, k3, k4, k5]
          exact fin_plain ⟨by simp [hxv, h1', i2, i3, IntKind.wrap_u8]; omega, rfl⟩
        · have k5 : ¬ (b.toNat : Int) ≤ 102 := by omega
          have i3 : inR b.toNat 97 102 = false := by simp [inR, k4, k5]
          simp [k2, k3, k4, k5]
          exact fin_plain ⟨by simp [hxv, h1', i2, i3], rfl⟩
      · have k4 : ¬ (97 : Int) ≤ b.toNat := by omega
        have i3 : inR b.toNat 97 102 = false := by simp [inR, k4]
        simp [k2, k3, k4]
        exact fin_plain ⟨by simp [hxv, h1', i2, i3], rfl⟩
  · have k2 : ¬ (65 : Int) ≤ b.toNat := by omega
    have k4 : ¬ (97 : Int) ≤ b.toNat := by omega
    have i2 : inR b.toNat 65 70 = false := by simp [inR, k2]
    have i3 : inR b.toNat 97 102 = false := by simp [inR, k4]
    simp [k2, k4]
    exact fin_plain ⟨by simp [hxv, h1', i2, i3], rfl⟩
def HexQ (l : List UInt8) (p : Nat) (r : AV) : Prop := ∃ v : Int, r = .tup [.int .u8 v, .bool (two (l.drop p)).isSome] ∧ ∀ n, two (l.drop p) = some n → v = n
theorem hexPair_tr {l : List UInt8} {p : Nat} (hl : l.length ≤ 4611686018427387904) (hp : p ≤ l.length) :
    Tr Tryd.prog 144 [.str l, .int .i64 p, .bool true] fun _ r => HexQ l p r := by
  have fr : ∀ (c : Nat) (v : Int) (b : Bool), From c (.tup [.int .u8 v, .bool b]) := fun c v b => from_tup (by simp)
  intro c
  refine con_of c144 (by simp [F144]) ?_
  unfold F144
  simp (disch := first | rfl | decide | omega | simp) [wrap64, ]
  refine ⟨fun h => fin_plain ⟨rfl, ⟨0, by rw [two_short (by omega)]; rfl, fun n hn => ?_⟩, fr _ _ _⟩, fun h => ?_⟩
  · rw [two_short (by omega)] at hn; cases hn
  have hx : l[p]? = some l[p] := List.getElem?_eq_getElem (by omega)
  have hy : l[p + 1]? = some l[p + 1] := List.getElem?_eq_getElem (by omega)
  have hd := drop_two hx hy
  generalize l[p] = x at hx hd
  generalize l[p + 1] = y at hy hd
  simp (disch := first | rfl | decide | omega | simp) [wrap64, getW_of hx]
  refine call_fn0 (hexValue_fn x) (free_tup (by simp [free_int, free_bool]) _) fun _ _ => ?_
  simp (disch := first | rfl | decide | omega | simp) [wrap64, getW_of hy]
  refine ⟨by omega, ?_⟩
  refine call_fn0 (hexValue_fn y) (free_tup (by simp [free_int, free_bool]) _) fun _ _ => ?_
  have hv : ∀ m n, hxv x = some m → hxv y = some n → IntKind.u8.wrap (IntKind.u8.wrap ((m : Int) * 16) + n) = ((16 * m + n : Nat) : Int) := fun m n h1 h2 => by
    have := hxv_lt h1
    have := hxv_lt h2
    rw [IntKind.wrap_u8, IntKind.wrap_u8]
    omega
  have htw : two (l.drop p) = stp (stp (some 0) x) y := by rw [hd]; rfl
  cases h1 : hxv x with
  | none =>
    have ht : two (l.drop p) = none := by rw [htw]; simp [stp, h1]
    simp (disch := first | rfl | decide | omega | simp) [wrap64, ]
    exact fin_plain ⟨rfl, ⟨_, by rw [ht]; rfl, fun n hn => by rw [ht] at hn; cases hn⟩, fr _ _ _⟩
  | some m =>
    cases h2 : hxv y with
    | none =>
      have ht : two (l.drop p) = none := by rw [htw]; simp [stp, h1, h2]
      simp (disch := first | rfl | decide | omega | simp) [wrap64, ]
      exact fin_plain ⟨rfl, ⟨_, by rw [ht]; rfl, fun n hn => by rw [ht] at hn; cases hn⟩, fr _ _ _⟩
    | some n =>
      have ht : two (l.drop p) = some (16 * m + n) := by rw [htw]; simp [stp, h1, h2]
      simp (disch := first | rfl | decide | omega | simp) [wrap64, ]
      exact fin_plain ⟨rfl, ⟨_, by rw [ht]; rfl, fun k hk => by rw [ht] at hk; cases hk; exact hv m n h1 h2⟩, fr _ _ _⟩

theorem une_step {l : List UInt8} {p : Nat} {b : UInt8} (hb : l[p]? = some b) : une (l.drop p) = if b.toNat = 43 then (une (l.drop (p + 1))).map (32 :: ·) else if b.toNat = 37 then (two (l.drop (p + 1))).bind fun n => (une (l.drop (p + 3))).map (UInt8.ofNat n :: ·) else (une (l.drop (p + 1))).map (b :: ·) := by
  obtain ⟨h1, rfl⟩ := List.getElem?_eq_some_iff.1 hb
  rw [List.drop_eq_getElem_cons h1, une, List.drop_drop]
theorem une_map {l : List UInt8} {p q : Nat} {o x : List UInt8} (h : une l = (une (l.drop p)).map (o ++ ·)) (h2 : une (l.drop p) = (une (l.drop q)).map (x ++ ·)) : une l = (une (l.drop q)).map ((o ++ x) ++ ·) := by
  rw [h, h2, Option.map_map]
  congr 1
  funext y
  simp
theorem specUne_fn {l : List UInt8} (hl : l.length ≤ 1048576) : Fnc Tryd.prog 143 [.str l] (.tup (unO l)) := by
  refine fn_of c143 (by simp [F143]) fun c => ?_
  unfold F143
  simp
  refine loop_drop l.length (fun i e H c' => ∃ p : Nat, i ≤ p ∧ p ≤ l.length ∧ e 0 = .str l ∧ e 5 = .int .i64 p ∧ (∃ (o : List UInt8) (t : Nat), o.length ≤ p ∧ une l = (une (l.drop p)).map (o ++ ·) ∧ e 4 = .ref 0 t 1 o.length ∧ H = [⟨false, t, 1, o.map byteRow⟩])) ⟨0, by omega, by omega, rfl, rfl, [], _, by simp, by simp, rfl, rfl⟩ ?_
  intro i e H c hi ⟨p, hip, hp, e0, e5, o, t, hop, ho, e4, hH⟩ N hN
  subst hH
  have hm1 : o.length + 1 ≤ 140737488355328 := by omega
  have hm2 : o.length + 1 ≤ mx := by unfold mx; omega
  by_cases hpl : p < l.length
  case neg =>
    have hpe : p = l.length := by omega
    subst hpe
    have hu : une l = some o := by rw [ho, List.drop_length, une_nil]; simp
    simp [e0, e4, e5]
    refine toStrW_ref (l := o) rfl rfl (by unfold mx; omega) ?_
    simp
    exact fin_sub (List.nil_sublist _) (.refl _) ⟨by simp [unO, hu], rfl⟩
  have hb : l[p]? = some l[p] := List.getElem?_eq_getElem hpl
  generalize l[p] = b at hb
  have hst := une_step hb
  have hbl := b.toNat_lt
  by_cases g1 : b.toNat = 43
  · have k1 : (b.toNat : Int) = 43 := by omega
    rw [if_pos g1] at hst
    simp (disch := first | rfl | decide | omega | simp) [wrap64, e0, e4, e5, hpl, getW_of hb, k1, hm1, hm2]
    refine hN _ _ _ _ (by omega) (sub_one _ _) ⟨p + 1, by omega, by omega, by simp [upd, e0], by simp [upd], o ++ [32], _, by simp; omega, une_map ho hst, by simp [upd]; rfl, by simp [byteRow]⟩
  have k1 : ¬ (b.toNat : Int) = 43 := by omega
  rw [if_neg g1] at hst
  by_cases g2 : b.toNat = 37
  · have k2 : (b.toNat : Int) = 37 := by omega
    rw [if_pos g2] at hst
    simp (disch := first | rfl | decide | omega | simp) [wrap64, e0, e4, e5, hpl, getW_of hb, k2]
    refine call_fn0 (l4Two_fn (p := p + 1) (by omega) (by omega)) .int fun _ _ => ?_
    cases h2 : two (l.drop (p + 1)) with
    | none =>
      rw [h2] at hst
      have hu : une l = none := by rw [ho, hst]; rfl
      simp (disch := first | rfl | decide | omega | simp) [wrap64, e0, e4, e5, hpl, h2]
      exact fin_plain ⟨by simp [unO, hu], rfl⟩
    | some n =>
      have hn := two_lt h2
      rw [h2] at hst
      simp only [Option.bind_some] at hst
      have hroom : p + 3 ≤ l.length := by
        rcases Nat.lt_or_ge l.length (p + 3) with h | h
        · rw [two_short (by omega)] at h2; cases h2
        · exact h
      have hneg : ¬ (n : Int) < 0 := by omega
      have hw : IntKind.u8.wrap (n : Int) = ((UInt8.ofNat n).toNat : Int) := by rw [IntKind.wrap_u8]; simp [UInt8.toNat_ofNat']
      simp (disch := first | rfl | decide | omega | simp) [wrap64, e0, e4, e5, hpl, h2, hneg, hm1, hm2]
      refine hN _ _ _ _ (by omega) (sub_one _ _) ⟨p + 3, by omega, by omega, by simp [upd, e0], by simp [upd]; omega, o ++ [UInt8.ofNat n], _, by simp; omega, une_map ho hst, by simp [upd]; rfl, by simp [byteRow, hw]⟩
  have k2 : ¬ (b.toNat : Int) = 37 := by omega
  rw [if_neg g2] at hst
  simp (disch := first | rfl | decide | omega | simp) [wrap64, e0, e4, e5, hpl, getW_of hb, k1, k2, hm1, hm2]
  refine hN _ _ _ _ (by omega) (sub_one _ _) ⟨p + 1, by omega, by omega, by simp [upd, e0], by simp [upd], o ++ [b], _, by simp; omega, une_map ho hst, by simp [upd]; rfl, by simp [byteRow]⟩
theorem implUne_fn {l : List UInt8} (hl : l.length ≤ 1048576) : Fnc Tryd.prog 113 [.str l] (.tup (unO l)) := by
  refine fn_of c113 (by simp [F113]) fun c => ?_
  unfold F113
  simp
  refine loop_drop l.length (fun i e H c' => ∃ p : Nat, i ≤ p ∧ p ≤ l.length ∧ e 0 = .str l ∧ e 5 = .int .i64 p ∧ (∃ (o : List UInt8) (t : Nat), o.length ≤ p ∧ une l = (une (l.drop p)).map (o ++ ·) ∧ e 4 = .ref 0 t 1 o.length ∧ H = [⟨false, t, 1, o.map byteRow⟩])) ⟨0, by omega, by omega, rfl, rfl, [], _, by simp, by simp, rfl, rfl⟩ ?_
  intro i e H c hi ⟨p, hip, hp, e0, e5, o, t, hop, ho, e4, hH⟩ N hN
  subst hH
  have hm1 : o.length + 1 ≤ 140737488355328 := by omega
  have hm2 : o.length + 1 ≤ mx := by unfold mx; omega
  by_cases hpl : p < l.length
  case neg =>
    have hpe : p = l.length := by omega
    subst hpe
    have hu : une l = some o := by rw [ho, List.drop_length, une_nil]; simp
    simp [e0, e4, e5]
    refine toStrW_ref (l := o) rfl rfl (by unfold mx; omega) ?_
    simp
    exact fin_sub (List.nil_sublist _) (.refl _) ⟨by simp [unO, hu], rfl⟩
  have hb : l[p]? = some l[p] := List.getElem?_eq_getElem hpl
  generalize l[p] = b at hb
  have hst := une_step hb
  have hbl := b.toNat_lt
  by_cases g1 : b.toNat = 43
  · have k1 : (b.toNat : Int) = 43 := by omega
    rw [if_pos g1] at hst
    simp (disch := first | rfl | decide | omega | simp) [wrap64, e0, e4, e5, hpl, getW_of hb, k1, hm1, hm2]
    refine hN _ _ _ _ (by omega) (sub_one _ _) ⟨p + 1, by omega, by omega, by simp [upd, e0], by simp [upd], o ++ [32], _, by simp; omega, une_map ho hst, by simp [upd]; rfl, by simp [byteRow]⟩
  have k1 : ¬ (b.toNat : Int) = 43 := by omega
  rw [if_neg g1] at hst
  by_cases g2 : b.toNat = 37
  · have k2 : (b.toNat : Int) = 37 := by omega
    rw [if_pos g2] at hst
    simp (disch := first | rfl | decide | omega | simp) [wrap64, e0, e4, e5, hpl, getW_of hb, k2]
    refine call_tree0 (hexPair_tr (p := p + 1) (by omega) (by omega)) fun r _ _ ⟨v, e1, hv⟩ _ => ?_
    subst e1
    cases h2 : two (l.drop (p + 1)) with
    | none =>
      rw [h2] at hst
      have hu : une l = none := by rw [ho, hst]; rfl
      simp (disch := first | rfl | decide | omega | simp) [wrap64, e0, e4, e5, hpl, h2]
      exact fin_plain ⟨by simp [unO, hu], rfl⟩
    | some n =>
      have hn := two_lt h2
      have hv := hv n h2
      subst hv
      rw [h2] at hst
      simp only [Option.bind_some] at hst
      have hroom : p + 3 ≤ l.length := by
        rcases Nat.lt_or_ge l.length (p + 3) with h | h
        · rw [two_short (by omega)] at h2; cases h2
        · exact h
      have hw : (n : Int) = ((UInt8.ofNat n).toNat : Int) := by simp [UInt8.toNat_ofNat']; omega
      simp (disch := first | rfl | decide | omega | simp) [wrap64, e0, e4, e5, hpl, h2, hm1, hm2]
      refine hN _ _ _ _ (by omega) (sub_one _ _) ⟨p + 3, by omega, by omega, by simp [upd, e0], by simp [upd]; omega, o ++ [UInt8.ofNat n], _, by simp; omega, une_map ho hst, by simp [upd]; rfl, by simp [byteRow]; omega⟩
  have k2 : ¬ (b.toNat : Int) = 37 := by omega
  rw [if_neg g2] at hst
  simp (disch := first | rfl | decide | omega | simp) [wrap64, e0, e4, e5, hpl, getW_of hb, k1, k2, hm1, hm2]
  refine hN _ _ _ _ (by omega) (sub_one _ _) ⟨p + 1, by omega, by omega, by simp [upd, e0], by simp [upd], o ++ [b], _, by simp; omega, une_map ho hst, by simp [upd]; rfl, by simp [byteRow]⟩
end A
end Go.Proofs.YtfcimcoanlgldaaDoor

/-
  The types that the laws of this seat speak of, and the helpers over them: printed by a program (wip/tools/gen.py). No condition.
-/


namespace Go.Proofs.YtfcimcoanlgldaaDoor
namespace A
set_option linter.unusedVariables false
set_option linter.unusedSimpArgs false
set_option maxRecDepth 100000

structure TPair where
  Name : List UInt8
  Value : List UInt8
def TPair.enc (s : TPair) : List AV := [.str s.Name, .str s.Value]
@[simp] theorem TPair.len (s : TPair) : s.enc.length = 2 := (rfl)
@[simp] theorem TPair.all (s : TPair) : s.enc.take 2 = s.enc := (rfl)
@[simp] theorem TPair.g0 (s : TPair) (K : AV → Prop) : getW s.enc 0 K = K (.str s.Name) := by simp [TPair.enc]
@[simp] theorem TPair.g1 (s : TPair) (K : AV → Prop) : getW s.enc 1 K = K (.str s.Value) := by simp [TPair.enc]
theorem TPair.cells (s : TPair) : ∀ a, a ∈ s.enc → a.cell = true := by simp [TPair.enc]
def TPair.sz (s : TPair) : Nat := s.Name.length + s.Value.length
def TPair.ok (s : TPair) : Prop := s.Name.length ≤ mx ∧ s.Value.length ≤ mx
def TPair.con (s : TPair) : TPair := s
theorem TPair.sz_con (s : TPair) : s.con.sz = s.sz := rfl
theorem TPair.sh : ∀ (n : Nat) (row : List AV), ShC Tryd.prog n 139 row → ∃ s : TPair, row = s.enc ∧ s.ok := by
  intro n row h
  obtain ⟨m, hl, hf⟩ := sh_fields (l := [(9, 0), (9, 1)]) (by kernel_rfl) h
  have hl' : row.length = 2 := hl.trans (by kernel_rfl)
  match row, hl' with
  | [x0, x1], _ =>
    have h0 := hf (9, 0) (by simp)
    rw [show Tryd.prog.cellsOf 9 = 1 by kernel_rfl] at h0
    obtain ⟨v0, rfl, k0⟩ := sh_str (t := 9) (by kernel_rfl) (show ShC Tryd.prog m 9 [x0] from h0)
    have h1 := hf (9, 1) (by simp)
    rw [show Tryd.prog.cellsOf 9 = 1 by kernel_rfl] at h1
    obtain ⟨v1, rfl, k1⟩ := sh_str (t := 9) (by kernel_rfl) (show ShC Tryd.prog m 9 [x1] from h1)
    exact ⟨⟨v0, v1⟩, rfl, ⟨k0, k1⟩⟩
theorem TPair.sz_fn {s : TPair} (hs : s.ok) {left : Int} (hl : Room left) : Fnc Tryd.prog 123 [.agg s.enc, .int .i64 left] (.int .i64 (szOf s.sz left)) := by
  unfold TPair.ok at hs
  have hr := hl.2
  refine fn_of c123 (by simp [F123]) fun c => ?_
  unfold F123
  simp
  rw [szOf_wrap hs.1 hl]
  refine ⟨fun h => fin_plain ⟨by rw [szOf_neg (by simp only [TPair.sz]; omega)], rfl⟩, fun h => ?_⟩
  rw [szOf_wrap hs.2 ⟨by omega, by omega⟩]
  refine ⟨fun h => fin_plain ⟨by rw [szOf_neg (by simp only [TPair.sz]; omega)], rfl⟩, fun h => ?_⟩
  have hz : s.sz = s.Name.length + s.Value.length := rfl
  have e : szOf s.sz left = left - (s.Name.length : Int) - (s.Value.length : Int) := by
    unfold szOf
    rw [if_pos (by omega)]
    omega
  exact fin_plain ⟨by rw [e], rfl⟩
theorem TPair.to_fn {s : TPair} (h : s.sz ≤ 1048576) : Tr Tryd.prog 124 [.agg s.enc] fun _ r => ∃ b : TPair, r = .agg b.enc ∧ b.con = s.con := by
  simp only [TPair.sz] at h
  intro c
  refine con_of c124 (by simp [F124]) ?_
  unfold F124
  simp [putA]
  refine fin_plain ⟨rfl, ⟨⟨s.Name, s.Value⟩, rfl, ?_⟩, from_agg ?_⟩
  · rfl
  · simp
theorem TPair.eq_fn {a b : TPair} (h : a.sz ≤ 1099511627776) (he : a.con = b.con) : Fnc Tryd.prog 52 [.agg a.enc, .agg b.enc] (.bool true) := by
  simp only [TPair.sz] at h
  have e0 : a.Name = b.Name := (congrArg TPair.Name he : a.con.Name = b.con.Name)
  have e1 : a.Value = b.Value := (congrArg TPair.Value he : a.con.Value = b.con.Value)
  refine fn_of c52 (by simp [F52]) fun c => ?_
  unfold F52
  simp [e0, e1]
  exact fin_plain ⟨rfl, rfl⟩
def szPairS (s : SL TPair) : Nat := s.list.length + szL TPair.sz s.list
def okPairS (s : SL TPair) : Prop := s.list.length ≤ mx ∧ ∀ x, x ∈ s.list → TPair.ok x
theorem szPairS_con {s t : SL TPair} (h : s.list.map TPair.con = t.list.map TPair.con) : szPairS s = szPairS t := by
  unfold szPairS
  rw [← szL_map (con := TPair.con) TPair.sz_con s.list, ← szL_map (con := TPair.con) TPair.sz_con t.list, h]
  have := congrArg List.length h; simp at this; rw [this]
theorem shPairS {n : Nat} {a : AV} (h : ShC Tryd.prog n 46 [a]) : ∃ s : SL TPair, a = s.av 2 TPair.enc ∧ okPairS s := by
  obtain ⟨s, h1, h2, h3⟩ := sh_slc (P := Tryd.prog) (t := 46) (el := 139) (w := 2) (enc := TPair.enc) (ok := TPair.ok) (by kernel_rfl) (by kernel_rfl) (TPair.sh) h
  exact ⟨s, h1, h2, h3⟩
theorem szPairS_fn {s : SL TPair} (hs : okPairS s) {left : Int} (hl : Room left) : Fnc Tryd.prog 67 [s.av 2 TPair.enc, .int .i64 left] (.int .i64 (szOf (szPairS s) left)) :=
  szS_fn (g := 123) c67 (fun _ => rfl) hs.1 hl fun x hx left hl => TPair.sz_fn (hs.2 x hx) hl
theorem toPairS_fn {s : SL TPair} (h : szPairS s ≤ 1048576) : Tr Tryd.prog 70 [s.av 2 TPair.enc] fun _ r => ∃ b : SL TPair, r = b.av 2 TPair.enc ∧ b.list.map TPair.con = s.list.map TPair.con := by
  unfold szPairS at h
  exact toS_fn (g := 124) (z := [.str [], .str []]) (bytes := 32) c70 rfl (fun _ => rfl) (fun x => TPair.cells x) (by omega) (by omega) fun x hx => TPair.to_fn (by have := szL_mem (sz := TPair.sz) hx; omega)
theorem eqPairS_fn {s t : SL TPair} (h : szPairS s ≤ 1099511627776) (he : s.list.map TPair.con = t.list.map TPair.con) : Fnc Tryd.prog 14 [s.av 2 TPair.enc, t.av 2 TPair.enc] (.bool true) := by
  unfold szPairS at h
  exact eqS_fn (g := 52) (con := TPair.con) c14 (fun _ => rfl) (by unfold mx; omega) he fun x hx y hxy => TPair.eq_fn (by have := szL_mem (sz := TPair.sz) hx; omega) hxy
structure TRequest where
  Path : List UInt8
  Query : SL TPair
  Cookies : SL TPair
def TRequest.enc (s : TRequest) : List AV := [.str s.Path, s.Query.av 2 TPair.enc, s.Cookies.av 2 TPair.enc]
@[simp] theorem TRequest.len (s : TRequest) : s.enc.length = 3 := (rfl)
@[simp] theorem TRequest.all (s : TRequest) : s.enc.take 3 = s.enc := (rfl)
@[simp] theorem TRequest.g0 (s : TRequest) (K : AV → Prop) : getW s.enc 0 K = K (.str s.Path) := by simp [TRequest.enc]
@[simp] theorem TRequest.g1 (s : TRequest) (K : AV → Prop) : getW s.enc 1 K = K (s.Query.av 2 TPair.enc) := by simp [TRequest.enc]
@[simp] theorem TRequest.g2 (s : TRequest) (K : AV → Prop) : getW s.enc 2 K = K (s.Cookies.av 2 TPair.enc) := by simp [TRequest.enc]
theorem TRequest.cells (s : TRequest) : ∀ a, a ∈ s.enc → a.cell = true := by simp [TRequest.enc]
def TRequest.sz (s : TRequest) : Nat := s.Path.length + (szPairS s.Query) + (szPairS s.Cookies)
def TRequest.ok (s : TRequest) : Prop := s.Path.length ≤ mx ∧ okPairS s.Query ∧ okPairS s.Cookies
def TRequest.con (s : TRequest) : TRequest := { s with Query := s.Query.con TPair.con, Cookies := s.Cookies.con TPair.con }
theorem TRequest.sz_con (s : TRequest) : s.con.sz = s.sz := by
  simp [TRequest.sz, TRequest.con, szPairS, szPairS, szL_map TPair.sz_con, szL_map TPair.sz_con]
theorem TRequest.sh : ∀ (n : Nat) (row : List AV), ShC Tryd.prog n 48 row → ∃ s : TRequest, row = s.enc ∧ s.ok := by
  intro n row h
  obtain ⟨m, hl, hf⟩ := sh_fields (l := [(9, 0), (46, 1), (46, 2)]) (by kernel_rfl) h
  have hl' : row.length = 3 := hl.trans (by kernel_rfl)
  match row, hl' with
  | [x0, x1, x2], _ =>
    have h0 := hf (9, 0) (by simp)
    rw [show Tryd.prog.cellsOf 9 = 1 by kernel_rfl] at h0
    obtain ⟨v0, rfl, k0⟩ := sh_str (t := 9) (by kernel_rfl) (show ShC Tryd.prog m 9 [x0] from h0)
    have h1 := hf (46, 1) (by simp)
    rw [show Tryd.prog.cellsOf 46 = 1 by kernel_rfl] at h1
    obtain ⟨v1, rfl, k1⟩ := shPairS (show ShC Tryd.prog m 46 [x1] from h1)
    have h2 := hf (46, 2) (by simp)
    rw [show Tryd.prog.cellsOf 46 = 1 by kernel_rfl] at h2
    obtain ⟨v2, rfl, k2⟩ := shPairS (show ShC Tryd.prog m 46 [x2] from h2)
    exact ⟨⟨v0, v1, v2⟩, rfl, ⟨k0, k1, k2⟩⟩
theorem TRequest.sz_fn {s : TRequest} (hs : s.ok) {left : Int} (hl : Room left) : Fnc Tryd.prog 29 [.agg s.enc, .int .i64 left] (.int .i64 (szOf s.sz left)) := by
  unfold TRequest.ok at hs
  have hr := hl.2
  refine fn_of c29 (by simp [F29]) fun c => ?_
  unfold F29
  simp
  rw [szOf_wrap hs.1 hl]
  refine ⟨fun h => fin_plain ⟨by rw [szOf_neg (by simp only [TRequest.sz]; omega)], rfl⟩, fun h => ?_⟩
  refine call_fn0 (szPairS_fn hs.2.1 ⟨by omega, by omega⟩) .int fun _ _ => ?_
  simp
  refine ⟨fun h => fin_plain ⟨by have := szOf_lt h; rw [szOf_neg (by simp only [TRequest.sz]; omega)], rfl⟩, fun h => ?_⟩
  obtain ⟨h1, k1⟩ := szOf_ge h
  rw [h1]
  refine call_fn0 (szPairS_fn hs.2.2 ⟨by omega, by omega⟩) .int fun _ _ => ?_
  simp
  refine ⟨fun h => fin_plain ⟨by have := szOf_lt h; rw [szOf_neg (by simp only [TRequest.sz]; omega)], rfl⟩, fun h => ?_⟩
  obtain ⟨h2, k2⟩ := szOf_ge h
  rw [h2]
  have hz : s.sz = s.Path.length + (szPairS s.Query) + (szPairS s.Cookies) := rfl
  have e : szOf s.sz left = left - (s.Path.length : Int) - ((szPairS s.Query) : Int) - ((szPairS s.Cookies) : Int) := by
    unfold szOf
    rw [if_pos (by omega)]
    omega
  exact fin_plain ⟨by rw [e], rfl⟩
theorem TRequest.to_fn {s : TRequest} (h : s.sz ≤ 1048576) : Tr Tryd.prog 31 [.agg s.enc] fun _ r => ∃ b : TRequest, r = .agg b.enc ∧ b.con = s.con := by
  simp only [TRequest.sz] at h
  intro c
  refine con_of c31 (by simp [F31]) ?_
  unfold F31
  simp [putA]
  refine call_tree0 (toPairS_fn (by omega)) fun r1 c1 hc1 ⟨b1, e1, q1⟩ f1 => ?_
  subst e1
  simp [putA]
  refine call_tree0 (toPairS_fn (by omega)) fun r2 c2 hc2 ⟨b2, e2, q2⟩ f2 => ?_
  subst e2
  simp [putA]
  refine fin_plain ⟨rfl, ⟨⟨s.Path, b1, b2⟩, rfl, ?_⟩, from_agg ?_⟩
  · simp [TRequest.con, SL.con, SL.pcon, q1, q2]
  · simp
    exact ⟨f1.mono (by omega), f2.mono (by omega)⟩
theorem TRequest.eq_fn {a b : TRequest} (h : a.sz ≤ 1099511627776) (he : a.con = b.con) : Fnc Tryd.prog 33 [.agg a.enc, .agg b.enc] (.bool true) := by
  simp only [TRequest.sz] at h
  have e0 : a.Path = b.Path := (congrArg TRequest.Path he : a.con.Path = b.con.Path)
  have e1 : a.Query.list.map TPair.con = b.Query.list.map TPair.con := congrArg (fun s => s.Query.list) he
  have e2 : a.Cookies.list.map TPair.con = b.Cookies.list.map TPair.con := congrArg (fun s => s.Cookies.list) he
  refine fn_of c33 (by simp [F33]) fun c => ?_
  unfold F33
  simp [e0]
  refine call_fn0 (eqPairS_fn (by omega) e1) .bool fun _ _ => ?_
  simp [e0]
  refine call_fn0 (eqPairS_fn (by omega) e2) .bool fun _ _ => ?_
  simp [e0]
  exact fin_plain ⟨rfl, rfl⟩
end A
end Go.Proofs.YtfcimcoanlgldaaDoor

/-
  Pairs read out of a text, by the reference and by the program: the same plain function. No condition.
-/




namespace Go.Proofs.YtfcimcoanlgldaaDoor
namespace A
set_option linter.unusedVariables false
set_option linter.unusedSimpArgs false
set_option maxRecDepth 100000

/-! ### the plain function -/
def okPair (p : TPair) : Bool := decide (p.Name.length ≤ 60) && decide (p.Value.length ≤ 60)
def okP (l : List TPair) : Bool := l.all okPair && decide (l.length ≤ 12)
def pairA (x : List UInt8) : TPair := ⟨(une (x.take (upTo 61 x))).getD [], (une (x.drop (upTo 61 x + 1))).getD []⟩
def pairB (x : List UInt8) : Bool := (une (x.take (upTo 61 x))).isSome && (une (x.drop (upTo 61 x + 1))).isSome
def pairOf (x : List UInt8) : Option TPair := if pairB x then some (pairA x) else none
def pairsOf : List (List UInt8) → Option (List TPair)
  | [] => some []
  | x :: r => (pairOf x).bind fun p => (pairsOf r).map (p :: ·)
def parseP (sep l : List UInt8) : Option (List TPair) := if l = [] then some [] else (pairsOf (Lib.split l sep)).bind fun o => if okP o then some o else none
theorem pairsOf_app : ∀ (a b : List (List UInt8)), pairsOf (a ++ b) = (pairsOf a).bind fun x => (pairsOf b).map (x ++ ·)
  | [], b => by simp [pairsOf]
  | x :: a, b => by
    simp only [List.cons_append, pairsOf, pairsOf_app a b]
    cases pairOf x with
    | none => rfl
    | some p =>
      cases pairsOf a with
      | none => rfl
      | some y => cases pairsOf b <;> simp
theorem pairsOf_len : ∀ {a : List (List UInt8)} {o : List TPair}, pairsOf a = some o → o.length = a.length
  | [], o, h => by simp [pairsOf] at h; subst h; rfl
  | x :: a, o, h => by
    simp only [pairsOf] at h
    cases hp : pairOf x with
    | none => rw [hp] at h; cases h
    | some p =>
      rw [hp] at h
      cases ha : pairsOf a with
      | none => rw [ha] at h; cases h
      | some y => rw [ha] at h; simp at h; subst h; simp [pairsOf_len ha]
theorem okP_sz {l : List TPair} (h : okP l = true) : l.length ≤ 12 ∧ szL TPair.sz l ≤ 120 * l.length := by
  simp only [okP, Bool.and_eq_true, decide_eq_true_eq] at h
  refine ⟨h.2, ?_⟩
  have h1 := h.1
  clear h
  induction l with
  | nil => simp [szL]
  | cons p l ih =>
    simp only [List.all_cons, Bool.and_eq_true, okPair, decide_eq_true_eq] at h1
    have := ih h1.2
    simp [szL, TPair.sz] at this ⊢; omega
theorem parseP_ok {sep l : List UInt8} {o : List TPair} (h : parseP sep l = some o) : okP o = true := by
  unfold parseP at h
  split at h
  · cases h; rfl
  · cases hp : pairsOf (Lib.split l sep) with
    | none => rw [hp] at h; cases h
    | some x =>
      rw [hp] at h
      simp only [Option.bind_some] at h
      split at h
      · cases h; assumption
      · cases h

/-! ### the pairs' bounds -/
theorem TPair.flat' : Flat TPair.enc := fun x a ha => by
  simp [TPair.enc] at ha
  rcases ha with rfl | rfl <;> exact ⟨rfl, free_str _⟩
theorem TPair.free (x : TPair) : ∀ a, a ∈ x.enc → Free a := fun a ha => (TPair.flat' x a ha).2
theorem spec_pairs {s : SL TPair} (hn : s.list.length ≤ mx) : Fnc Tryd.prog 69 [s.av 2 TPair.enc] (.bool (okP s.list)) := by
  refine fn_of c69 (by simp [F69]) fun c => ?_
  unfold F69
  simp
  refine loop_drop s.list.length (fun i e H c' => e 0 = s.av 2 TPair.enc ∧ e 3 = .int .i64 i ∧ (s.list.take i).all okPair = true ∧ H = []) ⟨rfl, rfl, by simp, rfl⟩ ?_
  intro i e H c hi ⟨e0, e3, ha, hH⟩ N hN
  subst hH
  by_cases h : i < s.list.length
  · have hb : s.list[i]? = some s.list[i] := List.getElem?_eq_getElem h
    have bad : okPair s.list[i] = false → okP s.list = false := fun hb => by
      unfold okP
      have : s.list.all okPair = false := by rw [List.all_eq_false]; exact ⟨_, List.getElem_mem h, by simp [hb]⟩
      rw [this]; rfl
    have good : okPair s.list[i] = true → (s.list.take (i + 1)).all okPair = true := fun hx => all_step ha h hx
    have hstep : IntKind.i64.wrap ((i : Int) + 1) = ((i + 1 : Nat) : Int) := by rw [step64 hn h]; rfl
    generalize s.list[i] = p at hb bad good
    by_cases h1 : p.Name.length ≤ 60
    · have k1 : ¬ (60 < (p.Name.length : Int)) := by omega
      by_cases h2 : p.Value.length ≤ 60
      · have k2 : ¬ (60 < (p.Value.length : Int)) := by omega
        simp [e0, e3, h, getW_of hb, k1, k2, hstep]
        exact hN _ _ _ _ h (List.Sublist.refl _) ⟨by simp [upd, e0], by simp [upd], good (by simp [okPair, h1, h2]), rfl⟩
      · have k2 : (60 < (p.Value.length : Int)) := by omega
        simp [e0, e3, h, getW_of hb, k1, k2, hstep]
        exact fin_plain ⟨by rw [bad (by simp [okPair, h2])], rfl⟩
    · have k1 : (60 < (p.Name.length : Int)) := by omega
      simp [e0, e3, h, getW_of hb, k1, hstep]
      exact fin_plain ⟨by rw [bad (by simp [okPair, h1])], rfl⟩
  · have h1 : i = s.list.length := by omega
    subst h1
    rw [List.take_length] at ha
    have k : ((s.list.length : Int) ≤ 12) = (s.list.length ≤ 12) := by simp only [eq_iff_iff]; omega
    simp [e0, e3]
    exact fin_plain ⟨by simp [okP, ha, k], rfl⟩
theorem impl_pairs {s : SL TPair} (hn : s.list.length ≤ mx) : Fnc Tryd.prog 72 [s.av 2 TPair.enc] (.bool (okP s.list)) := by
  refine fn_of c72 (by simp [F72]) fun c => ?_
  unfold F72
  simp
  refine loop_drop s.list.length (fun i e H c' => e 0 = s.av 2 TPair.enc ∧ e 5 = s.av 2 TPair.enc ∧ e 6 = .int .i64 s.list.length ∧ e 7 = .int .i64 i ∧ (s.list.take i).all okPair = true ∧ H = []) ⟨rfl, rfl, rfl, rfl, by simp, rfl⟩ ?_
  intro i e H c hi ⟨e0, e5, e6, e7, ha, hH⟩ N hN
  subst hH
  by_cases h : i < s.list.length
  · have hb : s.list[i]? = some s.list[i] := List.getElem?_eq_getElem h
    have bad : okPair s.list[i] = false → okP s.list = false := fun hb => by
      unfold okP
      have : s.list.all okPair = false := by rw [List.all_eq_false]; exact ⟨_, List.getElem_mem h, by simp [hb]⟩
      rw [this]; rfl
    have good : okPair s.list[i] = true → (s.list.take (i + 1)).all okPair = true := fun hx => all_step ha h hx
    have hstep : IntKind.i64.wrap ((i : Int) + 1) = ((i + 1 : Nat) : Int) := by rw [step64 hn h]; rfl
    generalize s.list[i] = p at hb bad good
    by_cases h1 : p.Name.length ≤ 60
    · have k1 : ¬ (60 < (p.Name.length : Int)) := by omega
      by_cases h2 : p.Value.length ≤ 60
      · have k2 : ¬ (60 < (p.Value.length : Int)) := by omega
        simp [e0, e5, e6, e7, h, getW_of hb, k1, k2, hstep, putA]
        exact hN _ _ _ _ h (List.nil_sublist _) ⟨by simp [upd, e0], by simp [upd, e5], by simp [upd, e6], by simp [upd], good (by simp [okPair, h1, h2]), rfl⟩
      · have k2 : (60 < (p.Value.length : Int)) := by omega
        simp [e0, e5, e6, e7, h, getW_of hb, k1, k2, hstep, putA]
        exact fin_plain ⟨by rw [bad (by simp [okPair, h2])], rfl⟩
    · have k1 : (60 < (p.Name.length : Int)) := by omega
      simp [e0, e5, e6, e7, h, getW_of hb, k1, hstep, putA]
      exact fin_plain ⟨by rw [bad (by simp [okPair, h1])], rfl⟩
  · have h1 : i = s.list.length := by omega
    subst h1
    rw [List.take_length] at ha
    have k : ((s.list.length : Int) ≤ 12) = (s.list.length ≤ 12) := by simp only [eq_iff_iff]; omega
    simp [e0, e5, e6, e7]
    exact fin_plain ⟨by simp [okP, ha, k], rfl⟩

/-! ### one pair -/
theorem free_un (l : List UInt8) : Free (.tup (unO l)) := free_tup fun a ha => by
  simp [unO] at ha
  rcases ha with rfl | rfl
  · exact free_str _
  · exact free_bool _
theorem min_fn (a b : Int) : Fnc Tryd.prog 80 [.int .i64 a, .int .i64 b] (.int .i64 (if b < a then b else a)) := by
  refine fn_of c80 (by simp [F80]) fun c => ?_
  unfold F80
  by_cases h : b < a <;> simp [h] <;> exact fin_plain ⟨rfl, rfl⟩
theorem upTo_drop (b : UInt8) (l : List UInt8) : l.drop (min l.length (upTo b l + 1)) = l.drop (upTo b l + 1) := by
  rcases Nat.le_total l.length (upTo b l + 1) with h | h
  · rw [Nat.min_eq_left h, List.drop_length, List.drop_eq_nil_of_le h]
  · rw [Nat.min_eq_right h]
theorem specPair_fn {l : List UInt8} (hl : l.length ≤ 1048576) : Fnc Tryd.prog 112 [.str l] (.tup [.agg (pairA l).enc, .bool (pairB l)]) := by
  refine fn_of c112 (by simp [F112]) fun c => ?_
  unfold F112
  simp
  refine loop_drop l.length (fun i e H c' => e 0 = .str l ∧ e 2 = .ptr 0 c 2 0 0 ∧ e 4 = .int .i64 i ∧ (∀ j, j < i → l[j]? ≠ some 61) ∧ H = [⟨false, c, 2, [[.str [], .str []]]⟩]) ⟨rfl, rfl, rfl, by simp, rfl⟩ ?_
  intro i e H c' hi ⟨e0, e2, e4, hno, hH⟩ N hN
  subst hH
  by_cases hgo : i < l.length ∧ l[i]? ≠ some 61
  · obtain ⟨h, hx⟩ := hgo
    have hb : l[i]? = some l[i] := List.getElem?_eq_getElem h
    have hstep : IntKind.i64.wrap ((i : Int) + 1) = ((i + 1 : Nat) : Int) := by rw [step64 (by unfold mx; omega) h]; rfl
    generalize l[i] = b at hb
    have hb61 : ¬ (b.toNat : Int) = 61 := fun e => hx (by rw [hb]; congr 1; exact UInt8.toNat_inj.1 (by have : (61 : UInt8).toNat = 61 := rfl; omega))
    simp [e0, e4, h, getW_of hb, hb61, hstep]
    refine hN _ _ _ _ h (List.Sublist.refl _) ⟨by simp [upd, e0], by simp [upd, e2], by simp [upd], fun j hj => ?_, rfl⟩
    rcases Nat.lt_or_ge j i with h1 | h1
    · exact hno j h1
    · have : j = i := by omega
      subst this; exact hx
  have hk : upTo 61 l = i := upTo_eq hi hno (by
    rcases Nat.lt_or_ge i l.length with h | h
    · exact .inr (Classical.byContradiction fun hx => hgo ⟨h, hx⟩)
    · exact .inl (by omega))
  have hmin : (if (i : Int) + 1 < (l.length : Int) then (i : Int) + 1 else (l.length : Int)) = ((min l.length (i + 1) : Nat) : Int) := by
    split <;> omega
  have hw : IntKind.i64.wrap ((i : Int) + 1) = (i : Int) + 1 := wrap64 (by omega) (by omega)
  have hdr : l.drop (min l.length (i + 1)) = l.drop (upTo 61 l + 1) := by rw [← hk]; exact upTo_drop 61 l
  have hA : ((une (l.take i)).getD []) = (pairA l).Name := by rw [← hk]; rfl
  have hB : ((une (l.drop (upTo 61 l + 1))).getD []) = (pairA l).Value := rfl
  have hC : ((une (l.take i)).isSome && (une (l.drop (upTo 61 l + 1))).isSome) = pairB l := by rw [← hk]; rfl
  rcases Nat.lt_or_ge i l.length with h | h
  focus
    have hb : l[i]? = some 61 := Classical.byContradiction fun hx => hgo ⟨h, hx⟩
    simp [e0, e4, h, hi, getW_of hb]
  rotate_left
  focus
    have h' : ¬ i < l.length := by omega
    simp [e0, e4, h', hi]
  rotate_left
  all_goals
    refine call_fn0 (specUne_fn (l := l.take i) (by simp; omega)) (free_un _ _) fun _ _ => ?_
    simp [e0, e4, unO, hw]
    refine call_fn0 (min_fn _ _) .int fun _ _ => ?_
    simp only [hmin]
    simp [e0, e4]
    rw [hdr]
    refine ⟨Nat.min_le_left _ _, ?_⟩
    refine call_fn0 (specUne_fn (by simp; omega)) (free_un _ _) fun _ _ => ?_
    simp [e0, e2, e4, unO, putA]
    cases h1 : (une (l.take i)).isSome
    · simp [e0, e2, e4, putA]
      exact fin_plain ⟨by rw [← hC, h1, hA, hB]; rfl, rfl⟩
    · simp [e0, e2, e4, putA]
      exact fin_plain ⟨by rw [← hC, h1, hA, hB]; simp [TPair.enc], rfl⟩
theorem cut_61 (l : List UInt8) : (Lib.cut l [61]).1 = l.take (upTo 61 l) ∧ (Lib.cut l [61]).2.1 = l.drop (upTo 61 l + 1) := cut_one 61 l

/-! ### all pairs, of the program -/
theorem implParse_con {l sep : List UInt8} (hl : l.length ≤ 1048576) (hs : sep ≠ []) (c : Nat) :
    Con Tryd.prog 51 [.str l, .str sep] [] c fun r O _ => ∃ b : SL TPair, r = .tup [b.ref 2, .bool (parseP sep l).isSome] ∧ O = b.wood 2 TPair.enc noInn ∧ b.list = (parseP sep l).getD [] := by
  refine con_of c51 (by simp [F51]) ?_
  unfold F51
  by_cases h0 : l = []
  · subst h0
    simp
    exact fin_all ⟨.mk c [], by simp [SL.ref, parseP], by simp [flat_wood], by simp [parseP]⟩
  simp [h0]
  refine call_tree0 (split_tr (by omega) hs) fun r _ hc1 ⟨b, e1, q1⟩ _ => ?_
  subst e1
  simp [h0]
  have hpl := split_len l sep
  have hpm := fun x => split_mem (l := l) (sep := sep) (x := x)
  have hpar : parseP sep l = (pairsOf b.list).bind fun o => if okP o then some o else none := by unfold parseP; rw [if_neg h0, q1]
  rw [← q1] at hpl hpm
  refine loop_drop b.list.length (fun i e H c' => e 22 = b.av 1 encS ∧ e 23 = .int .i64 b.list.length ∧ e 24 = .int .i64 i ∧ ∃ (o : List TPair) (t : Nat), pairsOf (b.list.take i) = some o ∧ e 6 = .ref 0 t 2 o.length ∧ H = [⟨false, t, 2, o.map TPair.enc⟩]) ⟨rfl, rfl, rfl, [], c, by simp [pairsOf], rfl, rfl⟩ ?_
  intro i e H c hi ⟨e22, e23, e24, o, t, ho, e6, hH⟩ N hN
  subst hH
  have hol := pairsOf_len ho
  rw [List.length_take] at hol
  have hm1 : (o.length + 1) * 32 ≤ 140737488355328 := by omega
  have hm2 : o.length + 1 ≤ mx := by unfold mx; omega
  by_cases h : i < b.list.length
  · have hx : b.list[i]? = some b.list[i] := List.getElem?_eq_getElem h
    have hall : pairsOf b.list = (pairsOf (b.list.take i)).bind fun x => (pairsOf (b.list[i] :: b.list.drop (i + 1))).map (x ++ ·) := by
      rw [← pairsOf_app, ← List.drop_eq_getElem_cons h, List.take_append_drop]
    have hnext : pairsOf (b.list.take (i + 1)) = (pairsOf (b.list.take i)).bind fun x => (pairsOf [b.list[i]]).map (x ++ ·) := by
      rw [← pairsOf_app, List.take_succ_eq_append_getElem h]
    have hxl := hpm _ (List.getElem_mem h)
    generalize b.list[i] = x at hx hall hnext hxl
    have hstep : IntKind.i64.wrap ((i : Int) + 1) = ((i + 1 : Nat) : Int) := by rw [step64 (by unfold mx; omega) h]; rfl
    obtain ⟨hc1, hc2⟩ := cut_61 x
    rw [ho] at hall hnext
    simp only [Option.bind_some, pairsOf] at hall hnext
    simp [e22, e23, e24, h, getW_of hx]
    refine call_fn0 (cut_fn (by omega)) (free_tup (by simp [free_str, free_bool]) _) fun _ _ => ?_
    simp [e22, e23, e24]
    rw [hc1]
    refine call_fn0 (implUne_fn (by simp; omega)) (free_un _ _) fun _ _ => ?_
    simp [e22, e23, e24, unO]
    rw [hc2]
    refine call_fn0 (implUne_fn (by simp; omega)) (free_un _ _) fun _ _ => ?_
    simp [e22, e23, e24, unO]
    have hpB : pairB x = ((une (x.take (upTo 61 x))).isSome && (une (x.drop (upTo 61 x + 1))).isSome) := rfl
    have hA : ((une (x.take (upTo 61 x))).getD []) = (pairA x).Name := rfl
    have hB : ((une (x.drop (upTo 61 x + 1))).getD []) = (pairA x).Value := rfl
    rw [hA, hB]
    have bad : pairB x = false → parseP sep l = none := fun hb => by
      rw [hpar, hall]; simp [pairOf, hb]
    cases h1 : une (x.take (upTo 61 x)) with
    | none =>
      simp
      have := bad (by rw [hpB, h1]; rfl)
      exact fin_sub (List.nil_sublist _) (.refl _) ⟨.nil, by rw [this]; rfl, rfl, by rw [this]; rfl⟩
    | some u1 =>
    cases h2 : une (x.drop (upTo 61 x + 1)) with
    | none =>
      simp
      have := bad (by rw [hpB, h1, h2]; rfl)
      exact fin_sub (List.nil_sublist _) (.refl _) ⟨.nil, by rw [this]; rfl, rfl, by rw [this]; rfl⟩
    | some u2 =>
    have hgood : pairB x = true := by rw [hpB, h1, h2]; rfl
    simp [e6, e24, hm1, hm2, putA, hstep]
    refine hN _ _ _ _ h (sub_one _ _) ⟨by simp [upd, e22], by simp [upd, e23], by simp [upd], o ++ [pairA x], _, by rw [hnext]; simp [pairOf, hgood], by simp [upd]; rfl, by simp [TPair.enc]⟩
  · have h1 : i = b.list.length := by omega
    subst h1
    rw [List.take_length] at ho
    rw [ho] at hpar
    simp only [Option.bind_some] at hpar
    simp [e6, e22, e23, e24]
    refine call_fn (impl_pairs (s := .mk t o) (by simp; unfold mx; omega)) (.cons (view_ref (by simp) rfl fun x _ => TPair.cells x) .nil) .bool fun _ _ => ?_
    cases hk : okP o
    · simp [hk, e6]
      rw [hk] at hpar
      simp at hpar
      exact fin_sub (List.nil_sublist _) (.refl _) ⟨.nil, by simp [hpar, SL.ref], by simp [SL.wood], by simp [hpar]⟩
    · simp [hk, e6]
      rw [hk] at hpar
      simp at hpar
      exact fin_sub (List.Sublist.refl _) (.refl _) ⟨.mk t o, by simp [hpar, SL.ref], by simp [flat_wood], by simp [hpar]⟩

/-! ### all pairs, of the reference -/
theorem is_fn {l sep : List UInt8} {i : Nat} (hl : l.length ≤ 9223372036854775000) (hs : sep.length ≤ 100) (hi : i ≤ l.length) : Fnc Tryd.prog 78 [.str l, .int .i64 i, .str sep] (.bool (Lib.occAt l sep i)) := by
  refine fn_of c78 (by simp [F78]) fun c => ?_
  unfold F78
  have w1 : IntKind.i64.wrap ((l.length : Int) - (i : Int)) = (l.length : Int) - i := wrap64 (by omega) (by omega)
  have w2 : IntKind.i64.wrap ((i : Int) + (sep.length : Int)) = ((i + sep.length : Nat) : Int) := by rw [wrap64 (by omega) (by omega)]; omega
  by_cases h : i + sep.length ≤ l.length
  · have k : (sep.length : Int) ≤ (l.length : Int) - i := by omega
    have e : Lib.occAt l sep i = decide ((l.take (i + sep.length)).drop i = sep) := by
      rw [Lib.occAt_iff_take _ _ _ h, List.drop_take, Nat.add_sub_cancel_left, dec_beq]
    simp [w1, w2, k, -Int.natCast_add]
    exact ⟨h, fin_plain ⟨by rw [e], rfl⟩⟩
  · have k : ¬ (sep.length : Int) ≤ (l.length : Int) - i := by omega
    have e : Lib.occAt l sep i = false := by
      cases ho : Lib.occAt l sep i
      · rfl
      · rcases Lib.occAt_room ho with h1 | h1
        · exact absurd h1 h
        · subst h1; simp at h; omega
    simp [w1, k]
    exact fin_plain ⟨by rw [e], rfl⟩
theorem specParse_con {l sep : List UInt8} (hl : l.length ≤ 1048576) (hs : sep ≠ []) (hs2 : sep.length ≤ 100) (c : Nat) :
    Con Tryd.prog 50 [.str l, .str sep] [] c fun r O _ => ∃ b : SL TPair, r = .tup [b.ref 2, .bool (parseP sep l).isSome] ∧ O = b.wood 2 TPair.enc noInn ∧ b.list = (parseP sep l).getD [] := by
  refine con_of c50 (by simp [F50]) ?_
  unfold F50
  simp
  by_cases h0 : l = []
  · subst h0
    refine loop_drop 0 (fun i e H c' => e 0 = .str [] ∧ e 6 = .ref 0 c 2 0 ∧ e 8 = .int .i64 0 ∧ H = [⟨false, c, 2, []⟩]) ⟨rfl, rfl, rfl, rfl⟩ ?_
    intro i e H c' hi ⟨e0, e6, e8, hH⟩ N hN
    subst hH
    simp [e0, e6, e8]
    refine call_fn (spec_pairs (s := .mk c []) (by simp)) (.cons (view_ref (by simp) rfl fun x _ => TPair.cells x) .nil) .bool fun _ _ => ?_
    have : okP ([] : List TPair) = true := rfl
    simp [this, e6]
    exact fin_all ⟨.mk c [], by simp [SL.ref, parseP], by simp [flat_wood], by simp [parseP]⟩
  have hlp : 0 < l.length := List.length_pos_iff.2 h0
  have hs1 : 0 < sep.length := List.length_pos_iff.2 hs
  have hpar : parseP sep l = (pairsOf (Lib.split l sep)).bind fun o => if okP o then some o else none := by unfold parseP; rw [if_neg h0]
  refine loop_drop (l.length + 1) (fun i e H c' => e 0 = .str l ∧ e 1 = .str sep ∧ e 8 = .int .i64 i ∧ ∃ (a : Nat) (o : List TPair) (t : Nat), e 7 = .int .i64 a ∧ e 6 = .ref 0 t 2 o.length ∧ H = [⟨false, t, 2, o.map TPair.enc⟩] ∧ o.length ≤ i ∧
      (i ≤ l.length → a ≤ l.length ∧ (∀ j, a ≤ j → j < i → Lib.occAt l sep j = false) ∧ pairsOf (Lib.split l sep) = (pairsOf (Lib.split (l.drop a) sep)).map (o ++ ·)) ∧ (l.length < i → pairsOf (Lib.split l sep) = some o)) ?_ ?_
  · exact ⟨rfl, rfl, rfl, 0, [], c, rfl, rfl, rfl, by simp, fun _ => ⟨by omega, fun j h1 h2 => by omega, by simp⟩, fun h => by omega⟩
  intro i e H c' hi ⟨e0, e1, e8, a, o, t, e7, e6, hH, hoi, hinv, hend⟩ N hN
  subst hH
  have hm1 : (o.length + 1) * 32 ≤ 140737488355328 := by omega
  have hm2 : o.length + 1 ≤ mx := by unfold mx; omega
  by_cases hle : i ≤ l.length
  case neg =>
    have hie : i = l.length + 1 := by omega
    have ho := hend (by omega)
    rw [ho] at hpar
    simp only [Option.bind_some] at hpar
    have hnle : ¬ ((i : Int) ≤ (l.length : Int)) := by omega
    simp [e0, e6, e8, hle]
    refine call_fn (spec_pairs (s := .mk t o) (by simp; unfold mx; omega)) (.cons (view_ref (by simp) rfl fun x _ => TPair.cells x) .nil) .bool fun _ _ => ?_
    cases hk : okP o
    · simp [hk, e6]
      rw [hk] at hpar
      simp at hpar
      exact fin_sub (Hk := [⟨false, _, 2, []⟩]) ((List.Sublist.refl _).cons _) (view_tup (.cons .name (Views.refl _ _))) ⟨.mk _ [], by rw [hpar]; rfl, rfl, by rw [hpar]; rfl⟩
    · simp [hk, e6]
      rw [hk] at hpar
      simp at hpar
      exact fin_sub (List.Sublist.refl _) (.refl _) ⟨.mk t o, by simp [hpar, SL.ref], by simp [flat_wood], by simp [hpar]⟩
  obtain ⟨ha, hno, hsp⟩ := hinv hle
  have hstep : IntKind.i64.wrap ((i : Int) + 1) = ((i + 1 : Nat) : Int) := by rw [wrap64 (by omega) (by omega)]; rfl
  have hadd : IntKind.i64.wrap ((i : Int) + (sep.length : Int)) = ((i + sep.length : Nat) : Int) := by rw [wrap64 (by omega) (by omega)]; omega
  by_cases hA : i < l.length ∧ Lib.occAt l sep i = false
  · obtain ⟨h, ho⟩ := hA
    simp [e0, e1, e8, hle, h0, h]
    refine call_fn0 (is_fn (by omega) hs2 hle) .bool fun _ _ => ?_
    simp [e0, e1, e8, ho, hstep]
    refine hN _ _ _ _ (by omega) (List.Sublist.refl _) ⟨by simp [upd, e0], by simp [upd, e1], by simp [upd], a, o, t, by simp [upd, e7], by simp [upd, e6], rfl, by omega, fun _ => ⟨ha, fun j h1 h2 => ?_, hsp⟩, fun h2 => by omega⟩
    rcases Nat.lt_or_ge j i with h3 | h3
    · exact hno j h1 h3
    · have : j = i := by omega
      subst this; exact ho
  have hocc : i < l.length → Lib.occAt l sep i = true := fun h => by
    cases ho : Lib.occAt l sep i
    · exact absurd ⟨h, ho⟩ hA
    · rfl
  by_cases hB : i < a
  · have h : i < l.length := by omega
    simp [e0, e1, e8, hle, h0, h]
    refine call_fn0 (is_fn (by omega) hs2 hle) .bool fun _ _ => ?_
    simp [e0, e1, e7, e8, hocc h, hstep, hB]
    exact hN _ _ _ _ (by omega) (List.Sublist.refl _) ⟨by simp [upd, e0], by simp [upd, e1], by simp [upd], a, o, t, by simp [upd, e7], by simp [upd, e6], rfl, by omega, fun _ => ⟨ha, fun j h1 h2 => by omega, hsp⟩, fun h2 => by omega⟩
  have hai : a ≤ i := by omega
  obtain ⟨x, hx⟩ : ∃ x, (l.take i).drop a = x := ⟨_, rfl⟩
  obtain ⟨R, hR⟩ : ∃ R, (if i < l.length then Lib.split (l.drop (i + sep.length)) sep else []) = R := ⟨_, rfl⟩
  have hcons : Lib.split (l.drop a) sep = x :: R := by
    rw [← hx, ← hR]
    by_cases h : i < l.length
    · rw [if_pos h]; exact split_at hs hai hle hno (hocc h)
    · have hie : i = l.length := by omega
      subst hie
      rw [if_neg h, List.take_length]; exact split_end hs hno
  rw [hcons] at hsp
  simp only [pairsOf] at hsp
  have hxl : x.length ≤ 1048576 := by rw [← hx]; simp; omega
  have bad : pairB x = false → parseP sep l = none := fun hb => by rw [hpar, hsp]; simp [pairOf, hb]
  have good : pairB x = true → pairsOf (Lib.split l sep) = (pairsOf R).map ((o ++ [pairA x]) ++ ·) := fun hb => by
    rw [hsp]; simp only [pairOf, hb, if_true, Option.bind_some, Option.map_map]
    congr 1; funext y; simp
  have hroom : i < l.length → i + sep.length ≤ l.length := fun h => occ_room hs (hocc h)
  have hsl : ∀ K : AV → Prop, strSliceW (.str l) (some (.int .i64 a)) (some (.int .i64 i)) K = K (.str x) := fun K => by rw [← hx]; simp [hai, hle]
  rcases Nat.lt_or_ge i l.length with h | h
  focus
    simp [e0, e1, e8, hle, h0, h]
    refine call_fn0 (is_fn (by omega) hs2 hle) .bool fun _ _ => ?_
    simp [e0, e1, e7, e8, hocc h, hstep, hB, hsl, -strSliceW_str]
  rotate_left
  focus
    have h' : ¬ i < l.length := by omega
    simp [e0, e1, e7, e8, hle, h0, h', hB, hsl, -strSliceW_str]
  rotate_left
  all_goals
    refine call_fn0 (specPair_fn hxl) (free_tup (by simp [free_bool, free_agg (TPair.free _)]) _) fun _ _ => ?_
    cases hb : pairB x
    · simp [e0, e1, e7, e8, hb, putA]
      have hn := bad hb
      exact fin_sub (Hk := [⟨false, _, 2, []⟩]) (((List.Sublist.refl _).cons _).cons _) (view_tup (.cons .name (Views.refl _ _))) ⟨.mk _ [], by rw [hn]; rfl, rfl, by rw [hn]; rfl⟩
    · have hg := good hb
      simp [e0, e1, e6, e7, e8, hb, putA, hm1, hm2, hadd, hstep]
      refine hN _ _ _ _ (by omega) (sub_one _ _) ⟨by simp [upd, e0], by simp [upd, e1], by simp [upd], i + sep.length, o ++ [pairA x], _, by simp [upd], by simp [upd]; rfl, by simp, by simp; omega, fun h2 => ⟨hroom (by omega), fun j h3 h4 => by omega, ?_⟩, fun h2 => ?_⟩
      · have : i < l.length := by omega
        rw [hg, ← hR, if_pos this]
      · have : ¬ i < l.length := by omega
        rw [hg, ← hR, if_neg this]; simp [pairsOf]
end A
end Go.Proofs.YtfcimcoanlgldaaDoor

/-
  IsRequest of the reference and of the program are the same plain function, and the law answers true. No condition.
-/


namespace Go.Proofs.YtfcimcoanlgldaaDoor
namespace A
set_option linter.unusedVariables false
set_option linter.unusedSimpArgs false
set_option maxRecDepth 100000

def isReq (x : TRequest) : Bool := isN x.Path && okP x.Query.list && okP x.Cookies.list
theorem req_same {a b : TRequest} (h : a.con = b.con) : a.Path = b.Path ∧ a.Query.list = b.Query.list ∧ a.Cookies.list = b.Cookies.list := by
  have e : ∀ l : List TPair, l.map TPair.con = l := fun l => List.map_id' l
  have h1 : (a.con.Query).list = (b.con.Query).list := congrArg (fun z => z.Query.list) h
  have h2 : (a.con.Cookies).list = (b.con.Cookies).list := congrArg (fun z => z.Cookies.list) h
  exact ⟨(congrArg TRequest.Path h : a.con.Path = b.con.Path), by simpa [TRequest.con, e] using h1, by simpa [TRequest.con, e] using h2⟩
theorem isReq_con {a b : TRequest} (h : a.con = b.con) : isReq a = isReq b := by
  obtain ⟨h1, h2, h3⟩ := req_same h
  unfold isReq; rw [h1, h2, h3]
theorem reqOk_con {a b : TRequest} (h : a.con = b.con) (ha : b.ok) : a.ok := by
  obtain ⟨h1, h2, h3⟩ := req_same h
  unfold TRequest.ok okPairS at ha ⊢; rw [h1, h2, h3]; exact ha
theorem spec_isReq {x : TRequest} (hx : x.ok) : Fnc Tryd.prog 30 [.agg x.enc] (.bool (isReq x)) := by
  obtain ⟨h1, h2, h3⟩ := hx
  refine fn_of c30 (by simp [F30]) fun c => ?_
  unfold F30
  simp
  refine call_fn0 (spec_isN h1) .bool fun _ _ => ?_
  cases hN : isN x.Path
  · simp
    exact fin_plain ⟨by simp [isReq, hN], rfl⟩
  simp
  refine call_fn0 (spec_pairs h2.1) .bool fun _ _ => ?_
  cases hQ : okP x.Query.list
  · simp
    exact fin_plain ⟨by simp [isReq, hQ], rfl⟩
  simp
  refine call_fn0 (spec_pairs h3.1) .bool fun _ _ => ?_
  simp
  exact fin_plain ⟨by simp [isReq, hN, hQ], rfl⟩
theorem impl_isReq {x : TRequest} (hx : x.ok) : Fnc Tryd.prog 32 [.agg x.enc] (.bool (isReq x)) := by
  obtain ⟨h1, h2, h3⟩ := hx
  refine fn_of c32 (by simp [F32]) fun c => ?_
  unfold F32
  simp
  refine call_fn0 (impl_isN h1) .bool fun _ _ => ?_
  cases hN : isN x.Path
  · simp
    exact fin_plain ⟨by simp [isReq, hN], rfl⟩
  simp
  refine call_fn0 (impl_pairs h2.1) .bool fun _ _ => ?_
  cases hQ : okP x.Query.list
  · simp
    exact fin_plain ⟨by simp [isReq, hQ], rfl⟩
  simp
  refine call_fn0 (impl_pairs h3.1) .bool fun _ _ => ?_
  simp
  exact fin_plain ⟨by simp [isReq, hN, hQ], rfl⟩
def TRequest.at (c : Nat) (a : TRequest) : TRequest := { a with Query := .mk c a.Query.list, Cookies := .mk c a.Cookies.list }
theorem TRequest.at_con (c : Nat) (a : TRequest) : (a.at c).con = a.con := rfl
theorem pairs_from (c : Nat) (l : List TPair) : From c ((SL.mk c l).av 2 TPair.enc) := by
  refine from_slc (Nat.le_refl _) fun row hr y hy => ?_
  obtain ⟨h, _, rfl⟩ := List.mem_map.1 hr
  exact (TPair.free h y hy).from c
theorem TRequest.at_from (c : Nat) (a : TRequest) : From c (.agg (a.at c).enc) := from_agg fun x hx => by
  simp [TRequest.enc, TRequest.at] at hx
  rcases hx with rfl | rfl | rfl
  · simp
  · exact pairs_from c _
  · exact pairs_from c _
def IsQ (a : TRequest) (v : AV) : Prop := ∃ b : TRequest, v = .agg b.enc ∧ b.con = a.con
theorem IsQ_some (a : TRequest) (c : Nat) : ∃ r, IsQ a r ∧ From c r := ⟨_, ⟨a.at c, rfl, a.at_con c⟩, a.at_from c⟩
theorem law_isReq {a : TRequest} (ha : a.ok) (c : Nat) : Con Tryd.prog 7 [.agg a.enc] [] c fun r H' _ => r = .bool true ∧ H' = [] := by
  refine con_of c7 (by simp [F7]) ?_
  unfold F7
  simp
  refine call_fn0 (TRequest.sz_fn ha ⟨by omega, by omega⟩) .int fun _ _ => ?_
  simp
  refine ⟨fun _ => fin_plain ⟨rfl, rfl⟩, fun h1 => ?_⟩
  obtain ⟨h1', h1''⟩ := szOf_ge h1
  have hz : ∀ x : TRequest, x.con = a.con → x.sz ≤ 1048576 := fun x hx => by rw [← x.sz_con, hx, a.sz_con]; omega
  refine call_tree0 (TRequest.to_fn (hz a rfl)) fun r1 _ _ ⟨a1, e1, q1⟩ _ => ?_
  subst e1
  simp
  refine call_fn0 (spec_isReq (reqOk_con q1 ha)) .bool fun _ _ => ?_
  simp
  refine call_tree0 (TRequest.to_fn (hz a rfl)) fun r2 _ _ ⟨a2, e2, q2⟩ _ => ?_
  subst e2
  simp
  refine call_fn0 (impl_isReq (reqOk_con q2 ha)) .bool fun _ _ => ?_
  rw [isReq_con q1, isReq_con q2]
  simp
  refine ⟨fun d v => if d = 24 then IsQ a v else v = .bool true, ?_⟩
  simp
  refine callD_tree0 (TRequest.to_fn (hz a rfl)) (IsQ_some a _) fun r3 ⟨a3, e3, q3⟩ _ => ?_
  subst e3
  simp
  refine callD_fn0 (TRequest.eq_fn (by have := hz _ q2; omega) (q2.trans q3.symm)) (fun v => Iff.rfl) (by simp) ?_
  simp
  intro c2 _
  exact fin_plain ⟨rfl, rfl⟩
end A
end Go.Proofs.YtfcimcoanlgldaaDoor

/-
  The words that mark strings. No condition.
-/


namespace Go.Proofs.YtfcimcoanlgldaaDoor
namespace A
set_option linter.unusedVariables false
set_option linter.unusedSimpArgs false
set_option maxRecDepth 100000

def mtD : Nat → Nat → List UInt8 → List UInt8
  | 0, _, acc => acc
  | f + 1, k, acc => if k = 0 then acc else mtD f (k / 10) (UInt8.ofNat (48 + k % 10) :: acc)
def mtext (k : Int) : List UInt8 := if k ≤ 0 then [109, 48] else 109 :: mtD 40 k.toNat []
theorem mtD_len : ∀ (f k : Nat) (acc : List UInt8), (mtD f k acc).length ≤ f + acc.length
  | 0, _, _ => by simp [mtD]
  | f + 1, k, acc => by
    unfold mtD
    split
    · omega
    · have := mtD_len f (k / 10) (UInt8.ofNat (48 + k % 10) :: acc)
      rw [List.length_cons] at this; omega
theorem mtext_len (k : Int) : (mtext k).length ≤ 41 := by
  unfold mtext
  split
  · simp
  · have := mtD_len 40 k.toNat []
    simp at this ⊢; omega

theorem mtext_fn {k : Int} (hk : k ≤ 1000000000000000000) : Fnc Tryd.prog 53 [.int .i64 k] (.str (mtext k)) := by
  refine fn_of c53 (by simp [F53]) fun c => ?_
  unfold F53
  simp
  refine ⟨fun h => fin_plain ⟨by simp [mtext, h], rfl⟩, fun h => ?_⟩
  have hm : mtext k = 109 :: mtD 40 k.toNat [] := by simp [mtext]; omega
  refine loop_drop 20 (fun i e H c' => ∃ (n : Nat) (acc : List UInt8), e 0 = .int .i64 n ∧ e 3 = .str acc ∧ acc.length = i ∧ n * 10 ^ i ≤ k.toNat ∧ mtD (40 - i) n acc = mtD 40 k.toNat [] ∧ H = []) ⟨k.toNat, [], by simp; omega, rfl, rfl, by simp, rfl, rfl⟩ ?_
  intro i e H c hi ⟨n, acc, e0, e3, hl, hn, hd, hH⟩ N hN
  subst hH
  simp [e0, e3]
  refine ⟨fun h => ?_, fun h => ?_⟩
  · have hi' : i < 20 := by
      rcases Nat.lt_or_ge i 20 with h1 | h1
      · exact h1
      · have : i = 20 := by omega
        subst this
        omega
    have h10 : ((n : Int)).tmod 10 = ((n % 10 : Nat) : Int) := by rw [Int.tmod_eq_emod_of_nonneg (by omega)]; omega
    have hq : ((n : Int)).tdiv 10 = ((n / 10 : Nat) : Int) := by rw [Int.tdiv_eq_ediv_of_nonneg (by omega)]; omega
    have h48 : (48 : Int) + ((n % 10 : Nat) : Int) = ((48 + n % 10 : Nat) : Int) := by omega
    have hw : IntKind.u8.wrap (IntKind.i64.wrap (48 + ((n % 10 : Nat) : Int))) = ((UInt8.ofNat (48 + n % 10)).toNat : Int) := by rw [h48]; exact wrap_u8 (by omega)
    rw [h10]
    refine toStrW_ref (l := [UInt8.ofNat (48 + n % 10)]) (by rw [hw]; rfl) rfl (by simp [mx]) ?_
    have hm1 : 1 + acc.length ≤ mx := by unfold mx; omega
    have hq' : IntKind.i64.wrap ((n / 10 : Nat) : Int) = ((n / 10 : Nat) : Int) := by
      have : n ≤ k.toNat := Nat.le_trans (Nat.le_mul_of_pos_right n (Nat.pos_of_ne_zero (by simp))) hn
      exact wrap64 (by omega) (by omega)
    simp [e0, e3, hm1, hq, hq', -Int.natCast_ediv]
    refine hN _ _ [] _ hi' (by simp) ⟨n / 10, UInt8.ofNat (48 + n % 10) :: acc, ?_, ?_, by simp [hl], ?_, ?_, rfl⟩
    · simp [upd]
    · simp [upd]
    · refine Nat.le_trans ?_ hn
      rw [Nat.pow_succ, Nat.mul_comm (10 ^ i) 10, ← Nat.mul_assoc]
      exact Nat.mul_le_mul_right _ (Nat.div_mul_le_self n 10)
    · rw [← hd]
      have e40 : 40 - i = (40 - (i + 1)) + 1 := by omega
      rw [e40]
      conv => rhs; unfold mtD
      rw [if_neg (by omega)]
  · have h0 : n = 0 := by omega
    subst h0
    have ha : acc = mtD 40 k.toNat [] := by
      rw [← hd]
      have e40 : 40 - i = (39 - i) + 1 := by omega
      rw [e40]; simp [mtD]
    have hm1 : 1 + acc.length ≤ mx := by unfold mx; omega
    exact ⟨hm1, fin_plain ⟨by rw [hm, ← ha], rfl⟩⟩
end A
end Go.Proofs.YtfcimcoanlgldaaDoor

/-
  Pairs and requests kept as0 objects: printed by a program (wip/tools/genobj.py). No condition.
-/



namespace Go.Proofs.YtfcimcoanlgldaaDoor
namespace A
set_option linter.unusedVariables false
set_option linter.unusedSimpArgs false
set_option maxRecDepth 100000

theorem call_mid2 {P : Program} {K : AV → List AObj → Nat → Prop} {f : Nat} {l l' : List AV} {a : AObj} {A A2 B C : List AObj} {c : Nat} {Q : AV → List AObj → Nat → Prop} (hf : Con P f l' B c Q) (hv : Views [] l l')
    (k : ∀ r B' c', c ≤ c' → Q r B' c' → tags B' = tags B ∧ Av [] r ∧ (∀ o, o ∈ B' → AvRows [] o) ∧ K r (a :: (A ++ (A2 ++ (B' ++ C)))) c') : CallW P f l (a :: (A ++ (A2 ++ (B ++ C)))) c K := by
  have e : ∀ X : List AObj, a :: (A ++ (A2 ++ (X ++ C))) = a :: ((A ++ A2) ++ (X ++ C)) := fun X => by simp
  rw [e]
  exact call_midr hf hv fun r B' c' hc hq => by rw [← e]; exact k r B' c' hc hq
theorem call_mid3 {P : Program} {K : AV → List AObj → Nat → Prop} {f : Nat} {l l' : List AV} {a : AObj} {A A2 A3 B C : List AObj} {c : Nat} {Q : AV → List AObj → Nat → Prop} (hf : Con P f l' B c Q) (hv : Views [] l l')
    (k : ∀ r B' c', c ≤ c' → Q r B' c' → tags B' = tags B ∧ Av [] r ∧ (∀ o, o ∈ B' → AvRows [] o) ∧ K r (a :: (A ++ (A2 ++ (A3 ++ (B' ++ C))))) c') : CallW P f l (a :: (A ++ (A2 ++ (A3 ++ (B ++ C))))) c K := by
  have e : ∀ X : List AObj, a :: (A ++ (A2 ++ (A3 ++ (X ++ C)))) = a :: ((A ++ (A2 ++ A3)) ++ (X ++ C)) := fun X => by simp
  rw [e]
  exact call_midr hf hv fun r B' c' hc hq => by rw [← e]; exact k r B' c' hc hq
theorem call_mid4 {P : Program} {K : AV → List AObj → Nat → Prop} {f : Nat} {l l' : List AV} {a : AObj} {A A2 A3 A4 B C : List AObj} {c : Nat} {Q : AV → List AObj → Nat → Prop} (hf : Con P f l' B c Q) (hv : Views [] l l')
    (k : ∀ r B' c', c ≤ c' → Q r B' c' → tags B' = tags B ∧ Av [] r ∧ (∀ o, o ∈ B' → AvRows [] o) ∧ K r (a :: (A ++ (A2 ++ (A3 ++ (A4 ++ (B' ++ C)))))) c') : CallW P f l (a :: (A ++ (A2 ++ (A3 ++ (A4 ++ (B ++ C)))))) c K := by
  have e : ∀ X : List AObj, a :: (A ++ (A2 ++ (A3 ++ (A4 ++ (X ++ C))))) = a :: ((A ++ (A2 ++ (A3 ++ A4))) ++ (X ++ C)) := fun X => by simp
  rw [e]
  exact call_midr hf hv fun r B' c' hc hq => by rw [← e]; exact k r B' c' hc hq
theorem TPair.flat : Flat TPair.enc := fun x a ha => by
  simp [TPair.enc] at ha
  rcases ha with rfl | rfl <;> exact ⟨rfl, fun T => by constructor⟩
theorem toPairSO {s : SL TPair} (h : szPairS s ≤ 1048576) (c : Nat) : Con Tryd.prog 70 [s.av 2 TPair.enc] [] c fun r H' _ => ∃ b : SL TPair, r = b.ref 2 ∧ H' = b.wood 2 TPair.enc noInn ∧ b.list.map TPair.con = s.list.map TPair.con := by
  unfold szPairS at h
  exact toSO_fn (g := 124) (z := [.str [], .str []]) (bytes := 32) c70 rfl (fun _ => rfl) (fun _ => rfl) (fun x a ha => (TPair.flat x a ha).2) (fun x o ho => by cases ho) (by omega) (by omega)
    (fun x hx c => (TPair.to_fn (by have := szL_mem (sz := TPair.sz) hx; omega) c).mono fun r H' c' _ ⟨hH, ⟨b, hr, hb⟩, _⟩ => ⟨b, hr, hH, hb⟩) c
def mkPair (k : Int) (x : TPair) : TPair := ⟨mtext k, mtext (k + 1)⟩
def cPair (x : TPair) : Nat := 2
theorem markPair_nil (k : Int) : Fnc Tryd.prog 15 [.nsl, .int .i64 k] (.int .i64 k) := by
  refine fn_of c15 (by simp [F15]) fun c => ?_
  unfold F15
  simp
  refine loop_drop 0 (fun i e H c' => e 0 = .nsl ∧ e 1 = .int .i64 k ∧ e 5 = .int .i64 0 ∧ H = []) ⟨rfl, rfl, rfl, rfl⟩ ?_
  intro i e H c hi ⟨e0, e1, e5, hH⟩ N hN
  subst hH
  simp [e0, e1, e5]
  exact fin_plain ⟨rfl, rfl⟩
theorem szL_cPair (l : List TPair) : l.length ≤ szL cPair l := by
  induction l with
  | nil => simp
  | cons x l ih => simp [szL, cPair] at ih ⊢; omega
theorem szL_ePair (l : List TPair) : szL cPair l = 2 * l.length := by
  show szL (fun _ => 2) l = _
  rw [szL_const]
theorem markPair_con1 {l : List TPair} (hz : szL cPair l ≤ 16777216) {k : Int} (hk : 0 ≤ k ∧ k ≤ 1099511627776) (t c : Nat) :
    Con Tryd.prog 15 [.ref 0 t 2 l.length, .int .i64 k] ([⟨false, t, 2, l.map TPair.enc⟩]) c fun r H' _ => r = .int .i64 (k + szL cPair l) ∧ H' = [⟨false, t, 2, (mks mkPair cPair k l).map TPair.enc⟩] := by
  have hln := szL_cPair l
  refine con_of c15 (by simp [F15]) ?_
  unfold F15
  simp
  refine loop_drop l.length (fun i e H c' => e 0 = .ref 0 t 2 l.length ∧ e 1 = .int .i64 (k + szL cPair (l.take i)) ∧ e 5 = .int .i64 i ∧ H = [⟨false, t, 2, (mixed mkPair cPair k l i).map TPair.enc⟩]) ⟨rfl, by simp [szL], rfl, by rw [mixed_zero]⟩ ?_
  intro i e H c hi ⟨e0, e1, e5, hH⟩ N hN
  subst hH
  have hs := mixed_set mkPair cPair k l (i := i)
  have hst := fun h : i < l.length => szL_step cPair l h
  have hle := szL_le cPair l i
  have hle1 := szL_le cPair l (i + 1)
  generalize hjj : k + (szL cPair (l.take i) : Int) = j at e1 hs
  simp [e0, e1, e5]
  refine ⟨fun h => ?_, fun h => ?_⟩
  · have hs := hs h
    have hst := hst h
    have hg := mixed_get mkPair cPair k l h
    have hx := szL_mem (sz := cPair) (List.getElem_mem h)
    generalize l[i] = x at hs hst hg hx
    simp only [cPair] at hx hst
    have w0 : IntKind.i64.wrap (j + 1) = j + 1 := wrap64 (by omega) (by omega)
    have w1 : IntKind.i64.wrap (j + 1 + 1) = j + 1 + 1 := wrap64 (by omega) (by omega)
    refine call_fn0 (mtext_fn (by omega)) .str fun _ _ => ?_
    simp [e0, e1, e5, h]
    refine ⟨_, hg, ?_⟩
    simp [e0, e1, e5, h, mixed_len, w0, w1, putA, TPair.enc]
    refine call_fn0 (mtext_fn (by omega)) .str fun _ _ => ?_
    simp [e0, e1, e5, h, mixed_len, w0, w1, putA, TPair.enc]
    refine hN _ _ _ _ h (List.Sublist.refl _) ⟨by simp [upd, e0], ?_, by simp [upd]; exact step64 (by unfold mx; omega) h, ?_⟩
    · simp [upd, w0, w1, hst]; omega
    · rw [← hs, List.map_set]
      simp [mkPair, TPair.enc, w0, w1]
  · have h1 : i = l.length := by omega
    subst h1
    refine fin_all ⟨?_, ?_⟩
    · rw [← hjj]; simp
    · rw [mixed_all]
theorem markPair_con {s : SL TPair} (hz : szL cPair s.list ≤ 16777216) {k : Int} (hk : 0 ≤ k ∧ k ≤ 1099511627776) (c : Nat) :
    Con Tryd.prog 15 [s.ref 2, .int .i64 k] (s.wood 2 TPair.enc noInn) c fun r H' _ => r = .int .i64 (k + szL cPair s.list) ∧ H' = (s.marks mkPair cPair k).wood 2 TPair.enc noInn := by
  cases s with
  | nil =>
    have := markPair_nil k c
    simpa [SL.ref, SL.wood, SL.marks, szL] using this
  | mk t l =>
    have := markPair_con1 (l := l) hz hk t c
    simpa [SL.ref, SL.wood, SL.marks, wood_flat] using this
def TRequest.encO (s : TRequest) : List AV := [.str s.Path, s.Query.ref 2, s.Cookies.ref 2]
def TRequest.inn (s : TRequest) : List AObj := s.Query.wood 2 TPair.enc noInn ++ (s.Cookies.wood 2 TPair.enc noInn)
@[simp] theorem TRequest.lenO (s : TRequest) : s.encO.length = 3 := (rfl)
@[simp] theorem TRequest.allO (s : TRequest) : s.encO.take 3 = s.encO := (rfl)
@[simp] theorem TRequest.o0 (s : TRequest) (K : AV → Prop) : getW s.encO 0 K = K (.str s.Path) := by simp [TRequest.encO]
@[simp] theorem TRequest.o1 (s : TRequest) (K : AV → Prop) : getW s.encO 1 K = K (s.Query.ref 2) := by simp [TRequest.encO]
@[simp] theorem TRequest.o2 (s : TRequest) (K : AV → Prop) : getW s.encO 2 K = K (s.Cookies.ref 2) := by simp [TRequest.encO]
theorem TRequest.freeO : ∀ (x : TRequest) a, a ∈ x.encO → Free a := fun x a ha => by
  simp [TRequest.encO] at ha
  rcases ha with rfl | rfl | rfl
  · exact free_str _
  · exact free_ref _ _
  · exact free_ref _ _
theorem TRequest.freeI : ∀ (x : TRequest) o, o ∈ x.inn → ∀ T, AvRows T o := fun x o ho => by
  simp only [TRequest.inn, List.mem_append] at ho
  rcases ho with ho | ho
  · exact flat_free TPair.flat _ _ o ho
  · exact flat_free TPair.flat _ _ o ho
theorem TRequest.viewO {S : List AObj} (x : TRequest) (h : ∀ o, o ∈ x.inn → o ∈ S) : ∀ (j : Nat) (a a' : AV), x.encO[j]? = some a → x.enc[j]? = some a' → View S a a' := fun j a a' h1 h2 => by
  match j, h1, h2 with
  | 0, h1, h2 => simp [TRequest.encO] at h1; simp [TRequest.enc] at h2; subst h1; subst h2; exact .refl _
  | 1, h1, h2 => simp [TRequest.encO] at h1; simp [TRequest.enc] at h2; subst h1; subst h2; exact view_flat (fun o ho => h o (by simp [TRequest.inn, ho])) TPair.flat.cells
  | 2, h1, h2 => simp [TRequest.encO] at h1; simp [TRequest.enc] at h2; subst h1; subst h2; exact view_flat (fun o ho => h o (by simp [TRequest.inn, ho])) TPair.flat.cells
  | j + 3, h1, h2 => simp [TRequest.encO] at h1
theorem view_ORequest {S : List AObj} {s : SL TRequest} (hs : ∀ o, o ∈ s.wood 3 TRequest.encO TRequest.inn → o ∈ S) : View S (s.ref 3) (s.av 3 TRequest.enc) :=
  view_wood hs (fun x => TRequest.cells x) (fun _ => rfl) fun x h => TRequest.viewO x h
theorem view_ARequest {S : List AObj} {s : TRequest} (hs : ∀ o, o ∈ s.inn → o ∈ S) : View S (.agg s.encO) (.agg s.enc) :=
  .agg rfl (fun j a ha => TRequest.cells s a (List.mem_of_getElem? ha)) (TRequest.viewO s hs)
theorem toRequestO {x : TRequest} (h : x.sz ≤ 1048576) (c : Nat) : Con Tryd.prog 31 [.agg x.enc] [] c fun r O _ => ∃ b : TRequest, r = .agg b.encO ∧ O = b.inn ∧ b.con = x.con := by
  simp only [TRequest.sz] at h
  refine con_of c31 (by simp [F31]) ?_
  unfold F31
  simp [putA]
  refine call_new (toPairSO (by omega) _) (Views.refl _ _) fun r1 O1 c1 hc1 ⟨b1, hr, hO, q1⟩ _ _ => ?_
  subst hr; subst hO
  refine ⟨_, .refl _, free_ref _ _ _, fun o ho => flat_free TPair.flat _ _ o ho _, ?_⟩
  simp [putA]
  refine call_new (toPairSO (by omega) _) (Views.refl _ _) fun r2 O2 c2 hc2 ⟨b2, hr, hO, q2⟩ _ _ => ?_
  subst hr; subst hO
  refine ⟨_, .refl _, free_ref _ _ _, fun o ho => flat_free TPair.flat _ _ o ho _, ?_⟩
  simp [putA]
  refine fin_sub (Hk := b1.wood 2 TPair.enc noInn ++ (b2.wood 2 TPair.enc noInn)) ?_ (.refl _) ⟨⟨x.Path, b1, b2⟩, rfl, by simp [TRequest.inn], by simp [TRequest.con, SL.con, SL.pcon, q1, q2]⟩
  exact ((List.Sublist.refl _).cons _).cons _ |>.cons _
end A
end Go.Proofs.YtfcimcoanlgldaaDoor

/-
  What reads the marks on pairs: printed by a program (wip/tools/genobj.py). No condition.
-/

namespace Go.Proofs.YtfcimcoanlgldaaDoor
namespace A
set_option linter.unusedVariables false
set_option linter.unusedSimpArgs false
set_option maxRecDepth 100000

theorem heldPair_nil (k : Int) : Fnc Tryd.prog 16 [.nsl, .int .i64 k] (.int .i64 k) := by
  refine fn_of c16 (by simp [F16]) fun c => ?_
  unfold F16
  simp
  refine loop_drop 0 (fun i e H c' => e 0 = .nsl ∧ e 1 = .int .i64 k ∧ e 5 = .int .i64 0 ∧ H = []) ⟨rfl, rfl, rfl, rfl⟩ ?_
  intro i e H c hi ⟨e0, e1, e5, hH⟩ N hN
  subst hH
  simp [e0, e1, e5]
  exact fin_plain ⟨rfl, rfl⟩
set_option maxHeartbeats 4000000 in
theorem heldPair_fn1 {l : List TPair} (hz : szL cPair l ≤ 16777216) {k : Int} (hk : 0 ≤ k ∧ k ≤ 1099511627776) (t : Nat) :
    Fnc Tryd.prog 16 [(SL.mk t (mks mkPair cPair k l)).av 2 TPair.enc, .int .i64 k] (.int .i64 (k + szL cPair l)) := by
  have hln := szL_cPair l
  refine fn_of c16 (by simp [F16]) fun c => ?_
  unfold F16
  simp
  have hlen := mks_len mkPair cPair k l
  refine loop_drop l.length (fun i e H c' => e 0 = (SL.mk t (mks mkPair cPair k l)).av 2 TPair.enc ∧ e 1 = .int .i64 (k + szL cPair (l.take i)) ∧ e 5 = .int .i64 i ∧ H = []) ⟨rfl, by simp [szL], rfl, rfl⟩ ?_
  intro i e H c hi ⟨e0, e1, e5, hH⟩ N hN
  subst hH
  have hg := fun h : i < l.length => mks_get mkPair cPair k l h
  have hst := fun h : i < l.length => szL_step cPair l h
  have hle := szL_le cPair l i
  have hle' := szL_le cPair l (i + 1)
  generalize hjj : k + (szL cPair (l.take i) : Int) = j at e1 hg
  simp [e0, e1, e5, hlen]
  refine ⟨fun h => ?_, fun h => ?_⟩
  · have hg := hg h
    have hst := hst h
    have hx := szL_mem (sz := cPair) (List.getElem_mem h)
    generalize l[i] = x at hg hst hx
    simp only [cPair] at hx hst
    have w0 : IntKind.i64.wrap (j + 1) = j + 1 := wrap64 (by omega) (by omega)
    have f0 : (mkPair j x).Name = mtext (j) := rfl
    have w1 : IntKind.i64.wrap (j + 1 + 1) = j + 1 + 1 := wrap64 (by omega) (by omega)
    have f1 : (mkPair j x).Value = mtext (j + 1) := rfl
    refine ⟨_, hg, ?_⟩
    simp [e0, e1, e5, h, w0, w1, f0, f1]
    refine callF_fn0 (mtext_fn (by omega)) .str fun _ _ => ?_
    simp [e0, e1, e5, h, w0, w1, f0, f1]
    refine ⟨_, hg, ?_⟩
    simp [e0, e1, e5, h, w0, w1, f0, f1]
    refine callF_fn0 (mtext_fn (by omega)) .str fun _ _ => ?_
    simp [e0, e1, e5, h, w0, w1, f0, f1]
    refine hN _ _ _ _ h (List.Sublist.refl _) ⟨by simp [upd, e0], ?_, by simp [upd]; exact step64 (by unfold mx; omega) h, rfl⟩
    simp [upd, w0, w1, hst]; omega
  · have h1 : i = l.length := by omega
    subst h1
    refine fin_plain ⟨?_, rfl⟩
    rw [← hjj]; simp
theorem heldPair_fn {s : SL TPair} (hz : szL cPair s.list ≤ 16777216) {k : Int} (hk : 0 ≤ k ∧ k ≤ 1099511627776) :
    Fnc Tryd.prog 16 [(s.marks mkPair cPair k).av 2 TPair.enc, .int .i64 k] (.int .i64 (k + szL cPair s.list)) := by
  cases s with
  | nil =>
    have := heldPair_nil k
    simpa [SL.av, SL.marks, szL] using this
  | mk t l => exact heldPair_fn1 (l := l) hz hk t
end A
end Go.Proofs.YtfcimcoanlgldaaDoor

/-
  ParseQuery and ParseCookies: the laws answer true. No condition.
-/


namespace Go.Proofs.YtfcimcoanlgldaaDoor
namespace A
set_option linter.unusedVariables false
set_option linter.unusedSimpArgs false
set_option maxRecDepth 100000

def PrsQ (sep l : List UInt8) (r : AV) (O : List AObj) : Prop := ∃ b : SL TPair, r = .tup [b.ref 2, .bool (parseP sep l).isSome] ∧ O = b.wood 2 TPair.enc noInn ∧ b.list = (parseP sep l).getD []
theorem prs_list {sep l : List UInt8} : ((parseP sep l).getD []).length ≤ 12 ∧ szL TPair.sz ((parseP sep l).getD []) ≤ 1440 := by
  cases h : parseP sep l with
  | none => simp [szL]
  | some o => have := okP_sz (parseP_ok h); simp; omega
theorem prs_tr {f : Nat} {l sep : List UInt8} (h : ∀ c, Con Tryd.prog f [.str l] [] c fun r O _ => PrsQ sep l r O) :
    Tr Tryd.prog f [.str l] fun _ r => ∃ b : SL TPair, r = .tup [b.av 2 TPair.enc, .bool (parseP sep l).isSome] ∧ b.list = (parseP sep l).getD [] := by
  have := flat_tr2 (P := Tryd.prog) (w := 2) (f := f) (args := [.str l]) (Q := fun b x => x = [.bool (parseP sep l).isSome] ∧ b.list = (parseP sep l).getD []) TPair.flat'
    (fun b x hq a ha => by rw [hq.1] at ha; simp at ha; subst ha; exact free_bool _) fun c => (h c).mono fun r O c' _ ⟨b, h1, h2, h3⟩ => ⟨b, _, h1, h2, rfl, h3⟩
  intro c
  refine (this c).mono fun r O c' _ ⟨h1, ⟨b, x, h2, h3, h4⟩, h5⟩ => ⟨h1, ⟨b, by rw [h2, h3], h4⟩, h5⟩
theorem spec_Query {l : List UInt8} (hl : l.length ≤ 1048576) (c : Nat) : Con Tryd.prog 17 [.str l] [] c fun r O _ => PrsQ [38] l r O := by
  refine con_of c17 (by simp [F17]) ?_
  unfold F17
  simp
  refine call_con (specParse_con hl (by simp) (by simp) _) fun r O c' hc ⟨b, e1, e2, e3⟩ _ _ => ?_
  subst e1; subst e2
  refine ⟨free_tup (by simp [free_bool, free_ref]) _, fun o ho => flat_free TPair.flat' _ _ o ho _, ?_⟩
  simp
  exact fin_all ⟨b, rfl, rfl, e3⟩
theorem impl_Query {l : List UInt8} (hl : l.length ≤ 1048576) (c : Nat) : Con Tryd.prog 18 [.str l] [] c fun r O _ => PrsQ [38] l r O := by
  refine con_of c18 (by simp [F18]) ?_
  unfold F18
  simp
  refine call_con (implParse_con hl (by simp) _) fun r O c' hc ⟨b, e1, e2, e3⟩ _ _ => ?_
  subst e1; subst e2
  refine ⟨free_tup (by simp [free_bool, free_ref]) _, fun o ho => flat_free TPair.flat' _ _ o ho _, ?_⟩
  simp
  exact fin_all ⟨b, rfl, rfl, e3⟩
theorem spec_Cookies {l : List UInt8} (hl : l.length ≤ 1048576) (c : Nat) : Con Tryd.prog 12 [.str l] [] c fun r O _ => PrsQ [59, 32] l r O := by
  refine con_of c12 (by simp [F12]) ?_
  unfold F12
  simp
  refine call_con (specParse_con hl (by simp) (by simp) _) fun r O c' hc ⟨b, e1, e2, e3⟩ _ _ => ?_
  subst e1; subst e2
  refine ⟨free_tup (by simp [free_bool, free_ref]) _, fun o ho => flat_free TPair.flat' _ _ o ho _, ?_⟩
  simp
  exact fin_all ⟨b, rfl, rfl, e3⟩
theorem impl_Cookies {l : List UInt8} (hl : l.length ≤ 1048576) (c : Nat) : Con Tryd.prog 13 [.str l] [] c fun r O _ => PrsQ [59, 32] l r O := by
  refine con_of c13 (by simp [F13]) ?_
  unfold F13
  simp
  refine call_con (implParse_con hl (by simp) _) fun r O c' hc ⟨b, e1, e2, e3⟩ _ _ => ?_
  subst e1; subst e2
  refine ⟨free_tup (by simp [free_bool, free_ref]) _, fun o ho => flat_free TPair.flat' _ _ o ho _, ?_⟩
  simp
  exact fin_all ⟨b, rfl, rfl, e3⟩

theorem law_parseQuery {l : List UInt8} (hmx : l.length ≤ mx) (c : Nat) : Con Tryd.prog 4 [.str l] [] c fun r H' _ => r = .bool true ∧ H' = [] := by
  refine con_of c4 (by simp [F4]) ?_
  unfold F4
  simp
  refine ⟨fun _ => fin_plain ⟨rfl, rfl⟩, fun h => ?_⟩
  have hl : l.length ≤ 1048576 := by omega
  obtain ⟨p1, p2⟩ := prs_list (sep := [38]) (l := l)
  refine call_tree0 (prs_tr fun c => spec_Query hl c) fun r1 _ _ ⟨w, e1, q1⟩ _ => ?_
  subst e1
  simp
  refine call_new (impl_Query hl _) (Views.refl _ _) fun r2 O c3 hc3 ⟨g, e2, hO, q2⟩ _ _ => ?_
  subst e2; subst hO
  refine ⟨_, .refl _, free_tup (by simp [free_bool, free_ref]) _, fun o ho => flat_free TPair.flat' _ _ o ho _, ?_⟩
  simp
  have hsz : ∀ b : SL TPair, b.list = (parseP [38] l).getD [] → szPairS b ≤ 1099511627776 := fun b hb => by unfold szPairS; rw [hb]; omega
  have hg : szL cPair g.list ≤ 16777216 := by rw [szL_ePair, q2]; omega
  have hk : ¬ ((1 : Int) + (szL cPair g.list : Int) < 0) := by omega
  refine call_fn (eqPairS_fn (s := g) (t := w) (hsz _ q2) (by rw [q2, q1])) (.cons (view_flat (fun _ h => h) TPair.flat'.cells) (.cons (.refl _) .nil)) .bool fun _ _ => ?_
  simp
  refine call_con (markPair_con hg ⟨by omega, by omega⟩ _) fun r H' c' _ ⟨e1, e2⟩ _ _ => ?_
  subst e1; subst e2
  refine ⟨.int, fun o ho => flat_free TPair.flat' _ _ o ho _, ?_⟩
  simp
  refine call_fn (heldPair_fn hg ⟨by omega, by omega⟩) (.cons (view_marks (fun _ h => h) TPair.flat'.cells) (.cons (.refl _) .nil)) .int fun _ _ => ?_
  simp [hk]
  refine call_tree0 (prs_tr fun c => impl_Query hl c) fun r3 _ _ ⟨y, e3, q3⟩ _ => ?_
  subst e3
  simp
  refine call_fn0 (eqPairS_fn (s := y) (t := w) (hsz _ q3) (by rw [q3, q1])) .bool fun _ _ => ?_
  simp
  refine call_fn (heldPair_fn hg ⟨by omega, by omega⟩) (.cons (view_marks (fun _ h => h) TPair.flat'.cells) (.cons (.refl _) .nil)) .int fun _ _ => ?_
  simp [hk]
  exact fin_plain ⟨rfl, rfl⟩

theorem law_parseCookies {l : List UInt8} (hmx : l.length ≤ mx) (c : Nat) : Con Tryd.prog 3 [.str l] [] c fun r H' _ => r = .bool true ∧ H' = [] := by
  refine con_of c3 (by simp [F3]) ?_
  unfold F3
  simp
  refine ⟨fun _ => fin_plain ⟨rfl, rfl⟩, fun h => ?_⟩
  have hl : l.length ≤ 1048576 := by omega
  obtain ⟨p1, p2⟩ := prs_list (sep := [59, 32]) (l := l)
  refine call_tree0 (prs_tr fun c => spec_Cookies hl c) fun r1 _ _ ⟨w, e1, q1⟩ _ => ?_
  subst e1
  simp
  refine call_new (impl_Cookies hl _) (Views.refl _ _) fun r2 O c3 hc3 ⟨g, e2, hO, q2⟩ _ _ => ?_
  subst e2; subst hO
  refine ⟨_, .refl _, free_tup (by simp [free_bool, free_ref]) _, fun o ho => flat_free TPair.flat' _ _ o ho _, ?_⟩
  simp
  have hsz : ∀ b : SL TPair, b.list = (parseP [59, 32] l).getD [] → szPairS b ≤ 1099511627776 := fun b hb => by unfold szPairS; rw [hb]; omega
  have hg : szL cPair g.list ≤ 16777216 := by rw [szL_ePair, q2]; omega
  have hk : ¬ ((1 : Int) + (szL cPair g.list : Int) < 0) := by omega
  refine call_fn (eqPairS_fn (s := g) (t := w) (hsz _ q2) (by rw [q2, q1])) (.cons (view_flat (fun _ h => h) TPair.flat'.cells) (.cons (.refl _) .nil)) .bool fun _ _ => ?_
  simp
  refine call_con (markPair_con hg ⟨by omega, by omega⟩ _) fun r H' c' _ ⟨e1, e2⟩ _ _ => ?_
  subst e1; subst e2
  refine ⟨.int, fun o ho => flat_free TPair.flat' _ _ o ho _, ?_⟩
  simp
  refine call_fn (heldPair_fn hg ⟨by omega, by omega⟩) (.cons (view_marks (fun _ h => h) TPair.flat'.cells) (.cons (.refl _) .nil)) .int fun _ _ => ?_
  simp [hk]
  refine call_tree0 (prs_tr fun c => impl_Cookies hl c) fun r3 _ _ ⟨y, e3, q3⟩ _ => ?_
  subst e3
  simp
  refine call_fn0 (eqPairS_fn (s := y) (t := w) (hsz _ q3) (by rw [q3, q1])) .bool fun _ _ => ?_
  simp
  refine call_fn (heldPair_fn hg ⟨by omega, by omega⟩) (.cons (view_marks (fun _ h => h) TPair.flat'.cells) (.cons (.refl _) .nil)) .int fun _ _ => ?_
  simp [hk]
  exact fin_plain ⟨rfl, rfl⟩
end A
end Go.Proofs.YtfcimcoanlgldaaDoor

/-
  Requests read out of a text, by the reference and by the program: the same plain function. No condition.
-/


namespace Go.Proofs.YtfcimcoanlgldaaDoor
namespace A
set_option linter.unusedVariables false
set_option linter.unusedSimpArgs false
set_option maxRecDepth 100000
open Go.RowKit

/-! ### the plain function -/
def crlf : List UInt8 := [13, 10]
def getS : List UInt8 := [71, 69, 84, 32, 47]
def httpS : List UInt8 := [32, 72, 84, 84, 80, 47, 49, 46, 49]
def cookS : List UInt8 := [67, 111, 111, 107, 105, 101, 58, 32]
/-- the first line's target -/
def target (line : List UInt8) : Option (List UInt8) := if Lib.hasPrefix line getS && Lib.hasSuffix (line.drop 5) httpS then some ((line.drop 5).take (line.length - 14)) else none
/-- the cookies' text, behind the first line -/
def cookies (rest : List UInt8) : Option (List UInt8) :=
  if Lib.hasPrefix rest cookS then (if (Lib.cut (rest.drop 8) crlf).2.2 = true ∧ (Lib.cut (rest.drop 8) crlf).2.1 = crlf then some (Lib.cut (rest.drop 8) crlf).1 else none)
  else if rest = crlf then some [] else none
structure PReq where
  p : List UInt8
  q : List TPair
  k : List TPair
def PReq.ok (x : PReq) : Bool := isN x.p && okP x.q && okP x.k
def reqT (t : List UInt8) (k : Option (List TPair)) : Option PReq :=
  (normP (t.take (upTo 63 t))).bind fun p => (parseP [38] (t.drop (upTo 63 t + 1))).bind fun q => k.bind fun c => if PReq.ok ⟨p, q, c⟩ then some ⟨p, q, c⟩ else none
def parseR (s : List UInt8) : Option PReq :=
  if (Lib.cut s crlf).2.2 then (target (Lib.cut s crlf).1).bind fun t => (cookies (Lib.cut s crlf).2.1).bind fun k => reqT t (parseP [59, 32] k) else none
def PReq.is (x : PReq) (r : TRequest) : Prop := r.Path = x.p ∧ r.Query.list = x.q ∧ r.Cookies.list = x.k
/-- what is handed back -/
def RqsQ (s : List UInt8) (r : AV) (O : List AObj) : Prop :=
  ∃ b : TRequest, r = .tup [.agg b.encO, .bool (parseR s).isSome] ∧ O = b.inn ∧ ((parseR s).getD ⟨[], [], []⟩).is b

/-! ### the library's cuts -/
theorem trimP_fn {l p : List UInt8} (hl : l.length ≤ 1048576) : Fnc Tryd.prog 82 [.str l, .str p] (.tup [.str (Lib.trimPrefix l p), .bool (Lib.hasPrefix l p)]) := by
  intro c
  refine con_below (res := .tup [.str (Lib.trimPrefix l p), .bool (Lib.hasPrefix l p)]) (fun G w vs hc I hs hr => ?_) ⟨rfl, rfl⟩
  obtain ⟨v0, v1, rfl⟩ : ∃ v0 v1, vs = #[v0, v1] := by
    match vs, hs with
    | ⟨[a, b]⟩, _ => exact ⟨a, b, rfl⟩
  have h0 := hr 0 _ rfl
  have h1 := hr 1 _ rfl
  simp at h0 h1
  cases h0 with
  | @str s _ e hl0 =>
  cases h1 with
  | @str t _ e1 hl1 =>
  have key := Tryd.strings_CutPrefix s t w
  rw [e, e1] at key
  have hle : (Lib.trimPrefix l p).length ≤ l.length := by unfold Lib.trimPrefix; split <;> simp
  refine key.mono fun e w' ⟨h1, h2⟩ => ⟨_, h1, h2 ▸ Below.refl _ _, .tup rfl fun j a hj => ?_⟩
  match j, hj with
  | 0, hj => cases hj; exact .str (by simp) (by unfold mx; omega)
  | 1, hj => cases hj; exact .bool
theorem trimS_fn {l p : List UInt8} (hl : l.length ≤ 1048576) : Fnc Tryd.prog 83 [.str l, .str p] (.tup [.str (Lib.trimSuffix l p), .bool (Lib.hasSuffix l p)]) := by
  intro c
  refine con_below (res := .tup [.str (Lib.trimSuffix l p), .bool (Lib.hasSuffix l p)]) (fun G w vs hc I hs hr => ?_) ⟨rfl, rfl⟩
  obtain ⟨v0, v1, rfl⟩ : ∃ v0 v1, vs = #[v0, v1] := by
    match vs, hs with
    | ⟨[a, b]⟩, _ => exact ⟨a, b, rfl⟩
  have h0 := hr 0 _ rfl
  have h1 := hr 1 _ rfl
  simp at h0 h1
  cases h0 with
  | @str s _ e hl0 =>
  cases h1 with
  | @str t _ e1 hl1 =>
  have hsz : s.size ≤ 9223372036854775807 := by rw [Lib.size_eq, e]; omega
  have key := Tryd.strings_CutSuffix s t w hsz
  rw [e, e1] at key
  have hle : (Lib.trimSuffix l p).length ≤ l.length := by
    unfold Lib.trimSuffix; split
    · simp
    · exact Nat.le_refl _
  refine key.mono fun e w' ⟨h1, h2⟩ => ⟨_, h1, h2 ▸ Below.refl _ _, .tup rfl fun j a hj => ?_⟩
  match j, hj with
  | 0, hj => cases hj; exact .str (by simp) (by unfold mx; omega)
  | 1, hj => cases hj; exact .bool
theorem cut_len (l sep : List UInt8) : (Lib.cut l sep).1.length ≤ l.length ∧ (Lib.cut l sep).2.1.length ≤ l.length := by
  unfold Lib.cut; split <;> simp; omega
theorem free_cut (l sep : List UInt8) : Free (.tup [.str (Lib.cut l sep).1, .str (Lib.cut l sep).2.1, .bool (Lib.cut l sep).2.2]) := free_tup fun a ha => by
  simp at ha
  rcases ha with rfl | rfl | rfl
  · exact free_str _
  · exact free_str _
  · exact free_bool _
theorem free_sb (l : List UInt8) (b : Bool) : Free (.tup [.str l, .bool b]) := free_tup fun a ha => by
  simp at ha
  rcases ha with rfl | rfl
  · exact free_str _
  · exact free_bool _
theorem cut_63 (l : List UInt8) : (Lib.cut l [63]).1 = l.take (upTo 63 l) ∧ (Lib.cut l [63]).2.1 = l.drop (upTo 63 l + 1) := cut_one 63 l

/-! ### requests kept as0 objects -/
def TRequest.mkO (x : PReq) (q k : SL TPair) : TRequest := ⟨x.p, q, k⟩
theorem none_is : (PReq.mk [] [] []).is ⟨[], .nil, .nil⟩ := ⟨rfl, rfl, rfl⟩
theorem encO_nil : (TRequest.mk [] .nil .nil).encO = [.str [], .nsl, .nsl] := rfl
theorem inn_nil : (TRequest.mk [] .nil .nil).inn = [] := rfl
theorem rqs_none {s : List UInt8} {H : List AObj} {c : Nat} (h : parseR s = none) : finW (fun r O _ => RqsQ s r O) (.tup [.agg [.str [], .nsl, .nsl], .bool false]) H c :=
  fin_sub (List.nil_sublist _) (.refl _) ⟨⟨[], .nil, .nil⟩, by rw [h]; rfl, rfl, by rw [h]; exact none_is⟩

/-- A request that is kept as0 objects, seen as0 a tree. -/
theorem rqs_tr {f : Nat} {s : List UInt8} (h : ∀ c, Con Tryd.prog f [.str s] [] c fun r O _ => RqsQ s r O) :
    Tr Tryd.prog f [.str s] fun _ r => ∃ b : TRequest, r = .tup [.agg b.enc, .bool (parseR s).isSome] ∧ ((parseR s).getD ⟨[], [], []⟩).is b :=
  tr_of h fun c r O c' _ ⟨b, h1, h2, h3⟩ ht => ⟨.tup [.agg b.enc, .bool (parseR s).isSome], by rw [h1]; exact view_tup (.cons (view_ARequest fun o ho => h2 ▸ ho) (Views.refl _ _)), ⟨b, rfl, h3⟩, from_tup fun a ha => by
    rcases List.mem_cons.1 ha with rfl | ha
    · refine from_agg fun a ha => ?_
      simp [TRequest.enc] at ha
      rcases ha with rfl | rfl | rfl
      · simp
      · exact flat_from TPair.flat fun u hu => ht u (by rw [h2]; simp [TRequest.inn, tags] at hu ⊢; exact .inl hu)
      · exact flat_from TPair.flat fun u hu => ht u (by rw [h2]; simp [TRequest.inn, tags] at hu ⊢; exact .inr hu)
    · simp at ha; subst ha; simp⟩

/-! ### of the program -/
theorem cut_fn' {l sep a b : List UInt8} {f : Bool} (h : Lib.cut l sep = (a, b, f)) (hl : l.length < 4294967281) : Fnc Tryd.prog 81 [.str l, .str sep] (.tup [.str a, .str b, .bool f]) := by
  have := cut_fn (l := l) (sep := sep) hl
  rw [h] at this; exact this
theorem free_ssb (a b : List UInt8) (f : Bool) : Free (.tup [.str a, .str b, .bool f]) := free_tup fun x hx => by
  simp at hx
  rcases hx with rfl | rfl | rfl
  · exact free_str _
  · exact free_str _
  · exact free_bool _
theorem norm_len {l p : List UInt8} (h : normP l = some p) : p.length ≤ 60 := by
  unfold normP at h
  split at h
  · cases h
  · cases hs : splitP l with
    | none => rw [hs] at h; cases h
    | some o =>
      rw [hs] at h
      simp only [Option.bind_some] at h
      split at h
      · rename_i hr
        cases h
        have := inR_true hr; omega
      · cases h
theorem okP_ok {b : SL TPair} (h : okP b.list = true) : okPairS b := by
  have hl := (okP_sz h).1
  simp only [okP, Bool.and_eq_true, decide_eq_true_eq, List.all_eq_true, okPair] at h
  refine ⟨by unfold mx; omega, fun x hx => ?_⟩
  have := h.1 x hx
  exact ⟨by unfold mx; omega, by unfold mx; omega⟩
theorem implReq_con {s : List UInt8} (hl : s.length ≤ 1048576) (c : Nat) : Con Tryd.prog 37 [.str s] [] c fun r O _ => RqsQ s r O := by
  refine con_of c37 (by simp [F37]) ?_
  unfold F37
  simp
  have hcl := cut_len s crlf
  obtain ⟨line, rest, fd, hcut⟩ : ∃ line rest fd, Lib.cut s crlf = (line, rest, fd) := ⟨_, _, _, rfl⟩
  rw [hcut] at hcl
  obtain ⟨hl1, hl2⟩ : line.length ≤ s.length ∧ rest.length ≤ s.length := hcl
  have hpar : parseR s = if fd then (target line).bind fun t => (cookies rest).bind fun k => reqT t (parseP [59, 32] k) else none := by unfold parseR; rw [hcut]
  refine call_fn0 (cut_fn' (sep := crlf) hcut (by omega)) (free_ssb _ _ _ _) fun _ _ => ?_
  simp
  refine call_fn0 (trimP_fn (p := getS) (by omega)) (free_sb _ _ _) fun _ _ => ?_
  have hT1 : (Lib.trimPrefix line getS).length ≤ line.length := by unfold Lib.trimPrefix; split <;> simp
  obtain ⟨T1, hT1e⟩ : ∃ T1, Lib.trimPrefix line getS = T1 := ⟨_, rfl⟩
  rw [hT1e] at hT1
  simp [hT1e]
  refine call_fn0 (trimS_fn (p := httpS) (by omega)) (free_sb _ _ _) fun _ _ => ?_
  have hT2 : (Lib.trimSuffix T1 httpS).length ≤ T1.length := by
    unfold Lib.trimSuffix; split
    · simp
    · exact Nat.le_refl _
  obtain ⟨T2, hT2e⟩ : ∃ T2, Lib.trimSuffix T1 httpS = T2 := ⟨_, rfl⟩
  rw [hT2e] at hT2
  simp [hT2e]
  cases fd with
  | false =>
    simp
    exact rqs_none (by rw [hpar]; rfl)
  | true =>
  rw [if_pos rfl] at hpar
  cases hone : Lib.hasPrefix line getS with
  | false =>
    simp
    exact rqs_none (by rw [hpar]; simp [target, hone])
  | true =>
  have hT1' : T1 = line.drop 5 := by rw [← hT1e]; unfold Lib.trimPrefix; rw [if_pos hone]; rfl
  cases htwo : Lib.hasSuffix T1 httpS with
  | false =>
    simp
    exact rqs_none (by rw [hpar]; simp [target, hone, ← hT1', htwo])
  | true =>
  have htg : target line = some T2 := by
    rw [← hT2e]
    unfold target Lib.trimSuffix
    rw [← hT1', hone, htwo]
    simp only [Bool.and_self, ↓reduceIte]
    congr 2
    rw [hT1']; simp [httpS]; omega
  rw [htg] at hpar
  simp only [Option.bind_some] at hpar
  simp
  refine call_fn0 (trimP_fn (p := cookS) (by omega)) (free_sb _ _ _) fun _ _ => ?_
  cases hck : Lib.hasPrefix rest cookS
  focus
    simp
    by_cases hr : rest = [13, 10]
    rotate_left
    focus
      simp [hr]
      exact rqs_none (by rw [hpar]; unfold cookies; rw [hck]; simp [show ¬ rest = crlf from hr])
    have hk : cookies rest = some [] := by unfold cookies; rw [hck]; simp [show rest = crlf from hr]
    have hkl : ([] : List UInt8).length ≤ 1048576 := by simp
    obtain ⟨PC, hPC⟩ : ∃ PC, parseP [59, 32] ([] : List UInt8) = PC := ⟨_, rfl⟩
    simp [hr]
  rotate_left
  focus
    have hafter : Lib.trimPrefix rest cookS = rest.drop 8 := by unfold Lib.trimPrefix; rw [if_pos hck]; rfl
    have hcl2 := cut_len (rest.drop 8) crlf
    obtain ⟨kk, rest2, fd2, hcut2⟩ : ∃ u v w, Lib.cut (rest.drop 8) crlf = (u, v, w) := ⟨_, _, _, rfl⟩
    rw [hcut2] at hcl2
    have hkl : kk.length ≤ 1048576 := by have := hcl2.1; simp at this; omega
    simp [hafter]
    refine call_fn0 (cut_fn' (sep := crlf) hcut2 (by simp; omega)) (free_ssb _ _ _ _) fun _ _ => ?_
    cases fd2
    focus
      simp
      exact rqs_none (by rw [hpar]; unfold cookies; rw [hck, hcut2]; simp)
    by_cases hr : rest2 = [13, 10]
    rotate_left
    focus
      simp [hr]
      exact rqs_none (by rw [hpar]; unfold cookies; rw [hck, hcut2]; simp [show ¬ rest2 = crlf from hr])
    have hk : cookies rest = some kk := by unfold cookies; rw [hck, hcut2]; simp [show rest2 = crlf from hr]
    obtain ⟨PC, hPC⟩ : ∃ PC, parseP [59, 32] kk = PC := ⟨_, rfl⟩
    simp [hr]
  rotate_left
  all_goals
    rw [hk] at hpar
    simp only [Option.bind_some, hPC] at hpar
    have hPk : ∀ o, PC = some o → okP o = true := fun o ho => parseP_ok (hPC.trans ho)
    obtain ⟨hq1, hq2⟩ := cut_63 T2
    refine call_fn0 (cut_fn (by omega)) (free_cut _ _ _) fun _ _ => ?_
    simp
    rw [hq1]
    refine call_fn0 (impl_norm (by simp; unfold mx; omega)) (free_norm _ _) fun _ _ => ?_
    simp [normA, putA]
    rw [hq2]
    refine call_new (impl_Query (by simp; omega) _) (Views.refl _ _) fun r1 O1 c1 hc1 ⟨b1, e1, hO1, q1⟩ _ _ => ?_
    subst e1; subst hO1
    refine ⟨_, .refl _, free_tup (by simp [free_bool, free_ref]) _, fun o ho => flat_free TPair.flat' _ _ o ho _, ?_⟩
    simp [putA]
    refine call_new (impl_Cookies hkl _) (Views.refl _ _) fun r2 O2 c2 hc2 ⟨b2, e2, hO2, q2⟩ _ _ => ?_
    subst e2; subst hO2
    refine ⟨_, .refl _, free_tup (by simp [free_bool, free_ref]) _, fun o ho => flat_free TPair.flat' _ _ o ho _, ?_⟩
    rw [hPC] at q2
    simp [putA, hPC]
    cases hp : normP (T2.take (upTo 63 T2)) with
    | none =>
      simp [putA]
      exact rqs_none (by rw [hpar]; simp [reqT, hp])
    | some p =>
    cases hq : parseP [38] (T2.drop (upTo 63 T2 + 1)) with
    | none =>
      simp [putA]
      exact rqs_none (by rw [hpar]; simp [reqT, hp, hq])
    | some q =>
    cases PC with
    | none =>
      simp [putA]
      exact rqs_none (by rw [hpar]; simp [reqT, hp, hq])
    | some q0 =>
    rw [hq] at q1
    simp only [Option.getD_some] at q1 q2
    have ho1 := okP_ok (b := b1) (by rw [q1]; exact parseP_ok hq)
    have ho2 := okP_ok (b := b2) (by rw [q2]; exact hPk _ rfl)
    have hpl := norm_len hp
    have hisr : isReq ⟨p, b1, b2⟩ = PReq.ok ⟨p, q, q0⟩ := by unfold isReq PReq.ok; rw [q1, q2]
    have hR : reqT T2 (some q0) = if PReq.ok ⟨p, q, q0⟩ then some ⟨p, q, q0⟩ else none := by simp [reqT, hp, hq]
    rw [hR] at hpar
    simp [putA]
    refine call_fn (impl_isReq (x := ⟨p, b1, b2⟩) ⟨by show p.length ≤ mx; unfold mx; omega, ho1, ho2⟩) (.cons (view_ARequest (s := ⟨p, b1, b2⟩) fun o ho => by simp [TRequest.inn] at ho; rcases ho with ho | ho <;> simp [ho]) .nil) .bool fun _ _ => ?_
    rw [hisr]
    cases hok : PReq.ok ⟨p, q, q0⟩
    · rw [hok] at hpar
      simp [putA]
      exact rqs_none (by rw [hpar]; rfl)
    · rw [hok, if_pos rfl] at hpar
      simp [putA]
      exact fin_sub (Hk := (TRequest.mk p b1 b2).inn) ((List.Sublist.refl _).cons _ |>.cons _) (.refl _) ⟨⟨p, b1, b2⟩, by rw [hpar]; rfl, rfl, by rw [hpar]; exact ⟨rfl, q1, q2⟩⟩
end A
end Go.Proofs.YtfcimcoanlgldaaDoor
