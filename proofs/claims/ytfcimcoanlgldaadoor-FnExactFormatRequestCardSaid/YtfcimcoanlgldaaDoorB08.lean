import Derived.Handed
import Derived.Test.YtfcimcoanlgldaaDoorRows
import Derived.OpenShut
import Derived.ProofKit
import Derived.LaidMore
import Derived.Lay
import Derived.LaidLaws
import Derived.LaidSub
import Derived.SevenTiedAt
import Derived.Stop.Joined
import Derived.Lib.LaidTab
import Derived.Test.YtfcimcoanlgldaaDoorTie
import Derived.Test.YtfcimcoanlgldaaDoorCards
import Derived.Test.YtfcimcoanlgldaaDoorB07

/-
  Paths, brought into their plain form by the reference and by the program: the same plain function. No condition.
-/




namespace Go.Proofs.YtfcimcoanlgldaaDoor
namespace A
set_option linter.unusedVariables false
set_option linter.unusedSimpArgs false
set_option maxRecDepth 100000

/-! ### the plain function -/
def pC (b : UInt8) : Bool := isA b || isD b || decide (b.toNat = 95) || decide (b.toNat = 45) || decide (b.toNat = 46)
def pPart (l : List UInt8) : Bool := l.all pC && decide (l.length ≤ 20)
def pstep (o : List (List UInt8)) (x : List UInt8) : Option (List (List UInt8)) :=
  if x = [] ∨ x = [46] then some o else if x = [46, 46] then (if o = [] then none else some o.dropLast) else if pPart x then some (o ++ [x]) else none
def pfold : List (List UInt8) → List (List UInt8) → Option (List (List UInt8))
  | o, [] => some o
  | o, x :: r => (pstep o x).bind fun o' => pfold o' r
def splitP (l : List UInt8) : Option (List (List UInt8)) := pfold [] (Lib.split l [47])
def normP (l : List UInt8) : Option (List UInt8) := if 400 < l.length then none else (splitP l).bind fun o => if inR (joinL [47] o).length 1 60 then some (joinL [47] o) else none
def isN (l : List UInt8) : Bool := decide (normP l = some l)
theorem pstep_ok {o o' : List (List UInt8)} {x : List UInt8} (h : pstep o x = some o') (ho : ∀ y, y ∈ o → pPart y = true) : (∀ y, y ∈ o' → pPart y = true) ∧ o'.length ≤ o.length + 1 := by
  unfold pstep at h
  split at h
  · cases h; exact ⟨ho, by omega⟩
  · split at h
    · split at h
      · cases h
      · cases h; exact ⟨fun y hy => ho y ((List.dropLast_sublist o).subset hy), by simp; omega⟩
    · split at h
      · cases h
        refine ⟨fun y hy => ?_, by simp⟩
        rcases List.mem_append.1 hy with hy | hy
        · exact ho y hy
        · simp at hy; subst hy; assumption
      · cases h
theorem pfold_ok : ∀ {r o o' : List (List UInt8)}, pfold o r = some o' → (∀ y, y ∈ o → pPart y = true) → (∀ y, y ∈ o' → pPart y = true) ∧ o'.length ≤ o.length + r.length
  | [], o, o', h, ho => by simp [pfold] at h; subst h; exact ⟨ho, by simp⟩
  | x :: r, o, o', h, ho => by
    simp only [pfold] at h
    cases hp : pstep o x with
    | none => rw [hp] at h; cases h
    | some o1 =>
      rw [hp] at h
      obtain ⟨h1, h2⟩ := pstep_ok hp ho
      obtain ⟨h3, h4⟩ := pfold_ok h h1
      exact ⟨h3, by simp; omega⟩
theorem pPart_len {l : List UInt8} (h : pPart l = true) : l.length ≤ 20 := by
  simp only [pPart, Bool.and_eq_true, decide_eq_true_eq] at h; exact h.2
theorem splitP_ok {l : List UInt8} {o : List (List UInt8)} (h : splitP l = some o) : (∀ y, y ∈ o → pPart y = true) ∧ o.length ≤ l.length + 2 := by
  obtain ⟨h1, h2⟩ := pfold_ok h (by simp)
  have := split_len l [47]
  exact ⟨h1, by simp at h2; omega⟩
theorem szL_mul {α : Type} (f : α → Nat) (k : Nat) : ∀ (l : List α), (∀ x, x ∈ l → f x ≤ k) → szL f l ≤ k * l.length
  | [], _ => by simp [szL]
  | x :: l, h => by
    have := szL_mul f k l fun y hy => h y (List.mem_cons_of_mem _ hy)
    have hx := h x (List.mem_cons_self ..)
    simp [szL, Nat.mul_add] at this ⊢; omega
theorem join_short {l : List UInt8} {o : List (List UInt8)} (h : splitP l = some o) (i : Nat) : (joinL [47] (o.take i)).length ≤ 22 * (l.length + 2) := by
  obtain ⟨h1, h2⟩ := splitP_ok h
  have h3 := joinL_len (sep := [47]) (by simp) (o.take i)
  have h4 := szL_mul (fun x : List UInt8 => x.length + 2) 22 (o.take i) fun x hx => by have := pPart_len (h1 x (List.mem_of_mem_take hx)); omega
  have h5 : (o.take i).length ≤ o.length := by simp; omega
  have h6 : 22 * (o.take i).length ≤ 22 * (l.length + 2) := Nat.mul_le_mul_left _ (by omega)
  omega

/-! ### a part -/
theorem spec_part {l : List UInt8} (hl : l.length ≤ mx) : Fnc Tryd.prog 154 [.str l] (.bool (l.all pC && inR l.length 1 20)) := by
  refine fn_of c154 (by simp [F154]) fun c => ?_
  unfold F154
  simp
  refine loop_drop l.length (fun i e H c' => e 0 = .str l ∧ e 3 = .int .i64 i ∧ (l.take i).all pC = true ∧ H = []) ⟨rfl, rfl, by simp, rfl⟩ ?_
  intro i e H c hi ⟨e0, e3, ha, hH⟩ N hN
  subst hH
  by_cases h : i < l.length
  · have hb : l[i]? = some l[i] := List.getElem?_eq_getElem h
    have bad : pC l[i] = false → (l.all pC && inR l.length 1 20) = false := fun hb => by
      have : l.all pC = false := by rw [List.all_eq_false]; exact ⟨_, List.getElem_mem h, by simp [hb]⟩
      rw [this]; rfl
    have good : pC l[i] = true → (l.take (i + 1)).all pC = true := fun hx => all_step ha h hx
    have hstep : IntKind.i64.wrap ((i : Int) + 1) = ((i + 1 : Nat) : Int) := by rw [step64 hl h]; rfl
    generalize l[i] = b at hb bad good
    have hLA := isL_A b
    have hpc : pC b = (isL b || isD b || decide (b.toNat = 45) || decide (b.toNat = 46)) := by
      rw [hLA]; unfold pC; cases isA b <;> cases isD b <;> cases decide (b.toNat = 95) <;> rfl
    simp [e0, e3, h, getW_of hb]
    refine call_fn0 (letter_fn b) .bool fun _ _ => ?_
    cases hL : isL b
    · simp [e0, e3, h, getW_of hb]
      refine call_fn0 (digit_fn b) .bool fun _ _ => ?_
      cases hD : isD b
      · by_cases h45 : b.toNat = 45
        · have k45 : (b.toNat : Int) = 45 := by omega
          simp [e0, e3, h, getW_of hb, k45, hstep]
          exact hN _ _ _ _ h (List.Sublist.refl _) ⟨by simp [upd, e0], by simp [upd], good (by simp [hpc, h45]), rfl⟩
        · have k45 : ¬ (b.toNat : Int) = 45 := by omega
          by_cases h46 : b.toNat = 46
          · have k46 : (b.toNat : Int) = 46 := by omega
            simp [e0, e3, h, getW_of hb, k45, k46, hstep]
            exact hN _ _ _ _ h (List.Sublist.refl _) ⟨by simp [upd, e0], by simp [upd], good (by simp [hpc, h46]), rfl⟩
          · have k46 : ¬ (b.toNat : Int) = 46 := by omega
            simp [e0, e3, h, getW_of hb, k45, k46, hstep]
            exact fin_plain ⟨by rw [bad (by simp [hpc, hL, hD, h45, h46])], rfl⟩
      · simp [e0, e3, h, getW_of hb, hstep]
        exact hN _ _ _ _ h (List.Sublist.refl _) ⟨by simp [upd, e0], by simp [upd], good (by simp [hpc, hD]), rfl⟩
    · simp [e0, e3, h, getW_of hb, hstep]
      exact hN _ _ _ _ h (List.Sublist.refl _) ⟨by simp [upd, e0], by simp [upd], good (by simp [hpc, hL]), rfl⟩
  · have h1 : i = l.length := by omega
    subst h1
    rw [List.take_length] at ha
    simp [e0, e3]
    refine call_fn0 (l1In_fn _ _ _) .bool fun _ _ => ?_
    simp
    exact fin_plain ⟨by simp [ha], rfl⟩
theorem impl_part {l : List UInt8} (hl : l.length ≤ mx) : Fnc Tryd.prog 158 [.str l] (.bool (pPart l)) := by
  refine fn_of c158 (by simp [F158]) fun c => ?_
  unfold F158
  simp
  refine loop_drop l.length (fun i e H c' => e 0 = .str l ∧ e 3 = .int .i64 i ∧ (l.take i).all pC = true ∧ H = []) ⟨rfl, rfl, by simp, rfl⟩ ?_
  intro i e H c hi ⟨e0, e3, ha, hH⟩ N hN
  subst hH
  by_cases h : i < l.length
  · have hb : l[i]? = some l[i] := List.getElem?_eq_getElem h
    have bad : pC l[i] = false → pPart l = false := fun hb => by
      have : l.all pC = false := by rw [List.all_eq_false]; exact ⟨_, List.getElem_mem h, by simp [hb]⟩
      unfold pPart; rw [this]; rfl
    have good : pC l[i] = true → (l.take (i + 1)).all pC = true := fun hx => all_step ha h hx
    have hstep : IntKind.i64.wrap ((i : Int) + 1) = ((i + 1 : Nat) : Int) := by rw [step64 hl h]; rfl
    generalize l[i] = b at hb bad good
    simp [e0, e3, h, getW_of hb]
    refine call_fn0 (isLetter_fn b) .bool fun _ _ => ?_
    cases hL : isA b
    · simp [e0, e3, h, getW_of hb]
      refine call_fn0 (isDigit_fn b) .bool fun _ _ => ?_
      cases hD : isD b
      · by_cases h95 : b.toNat = 95
        · have k95 : (b.toNat : Int) = 95 := by omega
          simp [e0, e3, h, getW_of hb, k95, hstep]
          exact hN _ _ _ _ h (List.Sublist.refl _) ⟨by simp [upd, e0], by simp [upd], good (by simp [pC, h95]), rfl⟩
        have k95 : ¬ (b.toNat : Int) = 95 := by omega
        by_cases h45 : b.toNat = 45
        · have k45 : (b.toNat : Int) = 45 := by omega
          simp [e0, e3, h, getW_of hb, k45, k95, hstep]
          exact hN _ _ _ _ h (List.Sublist.refl _) ⟨by simp [upd, e0], by simp [upd], good (by simp [pC, h45]), rfl⟩
        · have k45 : ¬ (b.toNat : Int) = 45 := by omega
          by_cases h46 : b.toNat = 46
          · have k46 : (b.toNat : Int) = 46 := by omega
            simp [e0, e3, h, getW_of hb, k45, k46, k95, hstep]
            exact hN _ _ _ _ h (List.Sublist.refl _) ⟨by simp [upd, e0], by simp [upd], good (by simp [pC, h46]), rfl⟩
          · have k46 : ¬ (b.toNat : Int) = 46 := by omega
            simp [e0, e3, h, getW_of hb, k45, k46, k95, hstep]
            exact fin_plain ⟨by rw [bad (by simp [pC, hL, hD, h45, h46, h95])], rfl⟩
      · simp [e0, e3, h, getW_of hb, hstep]
        exact hN _ _ _ _ h (List.Sublist.refl _) ⟨by simp [upd, e0], by simp [upd], good (by simp [pC, hD]), rfl⟩
    · simp [e0, e3, h, getW_of hb, hstep]
      exact hN _ _ _ _ h (List.Sublist.refl _) ⟨by simp [upd, e0], by simp [upd], good (by simp [pC, hL]), rfl⟩
  · have h1 : i = l.length := by omega
    subst h1
    rw [List.take_length] at ha
    have k : ((l.length : Int) ≤ 20) = (l.length ≤ 20) := by simp only [eq_iff_iff]; omega
    simp [e0, e3]
    exact fin_plain ⟨by simp [pPart, ha, k], rfl⟩

/-! ### the parts -/
def SplQ (l : List UInt8) (r : AV) (O : List AObj) : Prop :=
  (splitP l = none ∧ r = .tup [.nsl, .bool false] ∧ O = []) ∨
  ∃ (t : Nat) (rows : List (List AV)), r = .tup [.ref 0 t 1 ((splitP l).getD []).length, .bool (splitP l).isSome] ∧ O = [⟨false, t, 1, rows⟩] ∧ rows.take ((splitP l).getD []).length = ((splitP l).getD []).map encS
theorem cut_le {rows : List (List AV)} {o : List (List UInt8)} (h : rows.take o.length = o.map encS) : o.length ≤ rows.length := by
  have := congrArg List.length h
  simp at this; omega
theorem cut_view {i t : Nat} {rows : List (List AV)} {o : List (List UInt8)} {S : List AObj} (h : rows.take o.length = o.map encS) (hS : (⟨false, t, 1, rows⟩ : AObj) ∈ S) : View S (.ref i t 1 o.length) ((SL.mk t o).av 1 encS) := by
  have hx : ∀ (r : Nat) (x' : List AV), (o.map encS)[r]? = some x' → rows[r]? = some x' := fun r x' hr => by
    have hlt : r < o.length := by have := (List.getElem?_eq_some_iff.1 hr).1; simpa using this
    rw [← h, List.getElem?_take_of_lt hlt] at hr; exact hr
  refine .ref hS (cut_le h) (by simp) (fun r x x' h1 h2 => ?_) (fun r j x a h1 h2 => ?_) fun r j x x' a a' h1 h2 h3 h4 => ?_
  · rw [hx r x' h2] at h1; cases h1; rfl
  · obtain ⟨y, _, rfl⟩ := List.mem_map.1 (List.mem_of_getElem? h1)
    exact (encS_flat y a (List.mem_of_getElem? h2)).1
  · rw [hx r x' h2] at h1; cases h1; rw [h3] at h4; cases h4; exact .refl _
theorem cut_last {rows : List (List AV)} {o : List (List UInt8)} (h : rows.take o.length = o.map encS) : rows.take o.dropLast.length = o.dropLast.map encS := by
  rw [List.length_dropLast, List.dropLast_eq_take, List.map_take, ← h, List.take_take]
  congr 1; omega
theorem spl_tr {f : Nat} {l : List UInt8} (h : ∀ c, Con Tryd.prog f [.str l] [] c fun r O _ => SplQ l r O) :
    Tr Tryd.prog f [.str l] fun _ r => ∃ b : SL (List UInt8), r = .tup [b.av 1 encS, .bool (splitP l).isSome] ∧ b.list = (splitP l).getD [] :=
  tr_of h fun c r O c' _ hq ht => by
    rcases hq with ⟨h1, h2, h3⟩ | ⟨t, rows, h2, h3, h4⟩
    · exact ⟨.tup [.nsl, .bool false], by rw [h2]; exact .refl _, ⟨.nil, by rw [h1]; rfl, by rw [h1]; rfl⟩, from_tup (by simp)⟩
    · refine ⟨.tup [(SL.mk t ((splitP l).getD [])).av 1 encS, .bool (splitP l).isSome], by rw [h2]; exact view_tup (.cons (cut_view h4 (by rw [h3]; simp)) (Views.refl _ _)), ⟨_, rfl, rfl⟩, from_tup fun a ha => ?_⟩
      rcases List.mem_cons.1 ha with rfl | ha
      · refine flat_from encS_flat fun u hu => ht u ?_
        rw [flat_wood] at hu
        rw [h3]; simpa [tags] using hu
      · simp at ha; subst ha; simp
theorem spec_splitP {l : List UInt8} (hl : l.length ≤ 1048576) (c : Nat) : Con Tryd.prog 127 [.str l] [] c fun r O _ => SplQ l r O := by
  refine con_of c127 (by simp [F127]) ?_
  unfold F127
  simp
  refine loop_drop (l.length + 1) (fun i e H c' => e 0 = .str l ∧ e 6 = .int .i64 i ∧ ∃ (a : Nat) (o : List (List UInt8)) (t : Nat) (rows : List (List AV)), e 5 = .int .i64 a ∧ e 4 = .ref 0 t 1 o.length ∧ H = [⟨false, t, 1, rows⟩] ∧ rows.take o.length = o.map encS ∧ o.length ≤ i ∧
      (i ≤ l.length → a ≤ i ∧ (∀ j, a ≤ j → j < i → Lib.occAt l [47] j = false) ∧ splitP l = pfold o (Lib.split (l.drop a) [47])) ∧ (l.length < i → splitP l = some o)) ?_ ?_
  · exact ⟨rfl, rfl, 0, [], c, [], rfl, rfl, rfl, rfl, by simp, fun _ => ⟨by omega, fun j h1 h2 => by omega, by simp [splitP]⟩, fun h => by omega⟩
  intro i e H c' hi ⟨e0, e6, a, o, t, rows, e5, e4, hH, hrows, hoi, hinv, hend⟩ N hN
  subst hH
  have hcl := cut_le hrows
  have hm1 : (o.length + 1) * 16 ≤ 140737488355328 := by omega
  have hm2 : o.length + 1 ≤ mx := by unfold mx; omega
  by_cases hle : i ≤ l.length
  case neg =>
    have ho := hend (by omega)
    simp [e0, e4, e6, hle]
    exact fin_all (.inr ⟨t, rows, by simp [ho], rfl, by simp [ho, hrows]⟩)
  obtain ⟨ha, hno, hsp⟩ := hinv hle
  have hstep : IntKind.i64.wrap ((i : Int) + 1) = ((i + 1 : Nat) : Int) := by rw [wrap64 (by omega) (by omega)]; rfl
  by_cases hA : i < l.length ∧ l[i]? ≠ some 47
  · obtain ⟨h, hx⟩ := hA
    have hb : l[i]? = some l[i] := List.getElem?_eq_getElem h
    generalize l[i] = b at hb
    have hb47 : ¬ (b.toNat : Int) = 47 := fun e => hx (by rw [hb]; congr 1; exact UInt8.toNat_inj.1 (by have : (47 : UInt8).toNat = 47 := rfl; omega))
    simp [e0, e6, hle, h, getW_of hb, hb47, hstep]
    refine hN _ _ _ _ (by omega) (List.Sublist.refl _) ⟨by simp [upd, e0], by simp [upd], a, o, t, rows, by simp [upd, e5], by simp [upd, e4], rfl, hrows, by omega, fun _ => ⟨by omega, fun j h1 h2 => ?_, hsp⟩, fun h2 => by omega⟩
    rcases Nat.lt_or_ge j i with h3 | h3
    · exact hno j h1 h3
    · have : j = i := by omega
      subst this; rw [occ_one]; simp [hx]
  have hocc : i < l.length → l[i]? = some 47 := fun h => Classical.byContradiction fun hx => hA ⟨h, hx⟩
  obtain ⟨x, hx⟩ : ∃ x, (l.take i).drop a = x := ⟨_, rfl⟩
  obtain ⟨R, hR⟩ : ∃ R, (if i < l.length then Lib.split (l.drop (i + 1)) [47] else []) = R := ⟨_, rfl⟩
  have hcons : Lib.split (l.drop a) [47] = x :: R := by
    rw [← hx, ← hR]
    by_cases h : i < l.length
    · rw [if_pos h]
      exact split_at (by simp) ha hle hno (by rw [occ_one]; simp [hocc h])
    · have hie : i = l.length := by omega
      subst hie
      rw [if_neg h, List.take_length]; exact split_end (by simp) hno
  rw [hcons] at hsp
  simp only [pfold] at hsp
  have hxl : x.length ≤ mx := by rw [← hx]; simp; unfold mx; omega
  have next : ∀ (o' : List (List UInt8)), pstep o x = some o' → (i + 1 ≤ l.length → i + 1 ≤ i + 1 ∧ (∀ j, i + 1 ≤ j → j < i + 1 → Lib.occAt l [47] j = false) ∧ splitP l = pfold o' (Lib.split (l.drop (i + 1)) [47])) ∧ (l.length < i + 1 → splitP l = some o') := fun o' ho' => by
    rw [ho'] at hsp
    simp only [Option.bind_some] at hsp
    refine ⟨fun h2 => ⟨Nat.le_refl _, fun j h3 h4 => by omega, ?_⟩, fun h2 => ?_⟩
    · rw [hsp, ← hR, if_pos (by omega)]
    · rw [hsp, ← hR, if_neg (by omega)]; rfl
  have fails : pstep o x = none → splitP l = none := fun h => by rw [hsp, h]; rfl
  have hsl : ∀ K : AV → Prop, strSliceW (.str l) (some (.int .i64 a)) (some (.int .i64 i)) K = K (.str x) := fun K => by rw [← hx]; simp [ha, hle]
  rcases Nat.lt_or_ge i l.length with h | h
  focus
    simp [e0, e5, e6, hle, h, getW_of (hocc h), hstep, hsl, -strSliceW_str]
  rotate_left
  focus
    have h' : ¬ i < l.length := by omega
    simp [e0, e5, e6, hle, h', hstep, hsl, -strSliceW_str]
  rotate_left
  all_goals
    by_cases x0 : x = []
    · have hp : pstep o x = some o := by simp [pstep, x0]
      obtain ⟨n1, n2⟩ := next o hp
      simp [x0, e6, hstep]
      exact hN _ _ _ _ (by omega) (List.Sublist.refl _) ⟨by simp [upd, e0], by simp [upd], i + 1, o, t, rows, by simp [upd], by simp [upd, e4], rfl, hrows, by omega, n1, n2⟩
    by_cases x1 : x = [46]
    · have hp : pstep o x = some o := by simp [pstep, x1]
      obtain ⟨n1, n2⟩ := next o hp
      simp [x1, e6, hstep]
      exact hN _ _ _ _ (by omega) (List.Sublist.refl _) ⟨by simp [upd, e0], by simp [upd], i + 1, o, t, rows, by simp [upd], by simp [upd, e4], rfl, hrows, by omega, n1, n2⟩
    by_cases x2 : x = [46, 46]
    · by_cases o0 : o = []
      · have hp := fails (by simp [pstep, x2, o0])
        simp [x2, e4, o0]
        exact fin_sub (Hk := [⟨false, _, 1, []⟩]) ((List.Sublist.refl _).cons _) (view_tup (.cons .name (Views.refl _ _))) (.inr ⟨_, [], by rw [hp]; rfl, rfl, by rw [hp]; rfl⟩)
      · have hp : pstep o x = some o.dropLast := by simp [pstep, x2, o0]
        obtain ⟨n1, n2⟩ := next _ hp
        have hol : 0 < o.length := List.length_pos_iff.2 o0
        have hw : IntKind.i64.wrap ((o.length : Int) - 1) = ((o.length - 1 : Nat) : Int) := by rw [wrap64 (by omega) (by omega)]; omega
        have hol' : ¬ ((o.length : Int) = 0) := by omega
        simp [x2, e4, e6, o0, hw, hstep]
        exact hN _ _ _ _ (by omega) (List.Sublist.refl _) ⟨by simp [upd, e0], by simp [upd], i + 1, o.dropLast, t, rows, by simp [upd], by simp [upd], rfl, cut_last hrows, by simp; omega, n1, n2⟩
    simp [x0, x1, x2]
    refine call_fn0 (spec_part hxl) .bool fun _ _ => ?_
    have hlen : 0 < x.length := List.length_pos_iff.2 x0
    have hpp : (x.all pC && inR x.length 1 20) = pPart x := by
      unfold pPart inR
      have : ((1 : Int) ≤ x.length) := by omega
      have k : ((x.length : Int) ≤ 20) = (x.length ≤ 20) := by simp only [eq_iff_iff]; omega
      simp [this, k]
    rw [hpp]
    cases hP : pPart x
    · have hp := fails (by simp [pstep, x0, x1, x2, hP])
      simp
      exact fin_sub (Hk := [⟨false, _, 1, []⟩]) ((List.Sublist.refl _).cons _) (view_tup (.cons .name (Views.refl _ _))) (.inr ⟨_, [], by rw [hp]; rfl, rfl, by rw [hp]; rfl⟩)
    · have hp : pstep o x = some (o ++ [x]) := by simp [pstep, x0, x1, x2, hP]
      obtain ⟨n1, n2⟩ := next _ hp
      simp [e4, e6, hm1, hm2, cutW, hcl, hrows, hstep]
      exact hN _ _ _ _ (by omega) (sub_one _ _) ⟨by simp [upd, e0], by simp [upd], i + 1, o ++ [x], _, _, by simp [upd], by simp [upd] <;> rfl, rfl, by rw [List.map_append]; exact List.take_of_length_le (by simp), by simp; omega, n1, n2⟩
theorem impl_splitP {l : List UInt8} (hl : l.length ≤ 1048576) (c : Nat) : Con Tryd.prog 131 [.str l] [] c fun r O _ => SplQ l r O := by
  refine con_of c131 (by simp [F131]) ?_
  unfold F131
  simp
  refine call_tree0 (split_tr (by omega) (by simp)) fun r _ hc1 ⟨b, e1, q1⟩ _ => ?_
  subst e1
  simp
  have hpl := split_len l [47]
  have hpm := fun x => split_mem (l := l) (sep := [47]) (x := x)
  have hspl : splitP l = pfold [] b.list := by unfold splitP; rw [q1]
  rw [← q1] at hpl hpm
  refine loop_drop b.list.length (fun i e H c' => e 9 = b.av 1 encS ∧ e 10 = .int .i64 b.list.length ∧ e 11 = .int .i64 i ∧ ∃ (o : List (List UInt8)) (t : Nat) (rows : List (List AV)), e 4 = .ref 0 t 1 o.length ∧ H = [⟨false, t, 1, rows⟩] ∧ rows.take o.length = o.map encS ∧ o.length ≤ i ∧ splitP l = pfold o (b.list.drop i)) ?_ ?_
  · exact ⟨rfl, rfl, rfl, [], c, [], rfl, rfl, rfl, by simp, by simpa using hspl⟩
  intro i e H c' hi ⟨e9, e10, e11, o, t, rows, e4, hH, hrows, hoi, hsp⟩ N hN
  subst hH
  have hcl := cut_le hrows
  have hm1 : (o.length + 1) * 16 ≤ 140737488355328 := by omega
  have hm2 : o.length + 1 ≤ mx := by unfold mx; omega
  by_cases h : i < b.list.length
  case neg =>
    have hie : i = b.list.length := by omega
    subst hie
    rw [List.drop_length] at hsp
    have ho : splitP l = some o := hsp
    simp [e4, e9, e10, e11]
    exact fin_all (.inr ⟨t, rows, by simp [ho], rfl, by simp [ho, hrows]⟩)
  have hg : b.list[i]? = some b.list[i] := List.getElem?_eq_getElem h
  have hstep : IntKind.i64.wrap ((i : Int) + 1) = ((i + 1 : Nat) : Int) := by rw [step64 (by unfold mx; omega) h]; rfl
  have hxl := hpm _ (List.getElem_mem h)
  rw [List.drop_eq_getElem_cons h] at hsp
  simp only [pfold] at hsp
  generalize b.list[i] = x at hg hxl hsp
  have hxm : x.length ≤ mx := by unfold mx; omega
  have next : ∀ (o' : List (List UInt8)), pstep o x = some o' → splitP l = pfold o' (b.list.drop (i + 1)) := fun o' ho' => by
    rw [ho'] at hsp; exact hsp
  have fails : pstep o x = none → splitP l = none := fun h => by rw [hsp, h]; rfl
  simp [e9, e10, e11, h, getW_of hg]
  by_cases x0 : x = []
  · have hp : pstep o x = some o := by simp [pstep, x0]
    simp [x0, e11, hstep]
    exact hN _ _ _ _ (by omega) (List.Sublist.refl _) ⟨by simp [upd, e9], by simp [upd, e10], by simp [upd], o, t, rows, by simp [upd, e4], rfl, hrows, by omega, next o hp⟩
  by_cases x1 : x = [46]
  · have hp : pstep o x = some o := by simp [pstep, x1]
    simp [x1, e11, hstep]
    exact hN _ _ _ _ (by omega) (List.Sublist.refl _) ⟨by simp [upd, e9], by simp [upd, e10], by simp [upd], o, t, rows, by simp [upd, e4], rfl, hrows, by omega, next o hp⟩
  by_cases x2 : x = [46, 46]
  · by_cases o0 : o = []
    · have hp := fails (by simp [pstep, x2, o0])
      simp [x2, e4, o0]
      exact fin_sub (List.nil_sublist _) (.refl _) (.inl ⟨hp, rfl, rfl⟩)
    · have hp : pstep o x = some o.dropLast := by simp [pstep, x2, o0]
      have hol : 0 < o.length := List.length_pos_iff.2 o0
      have hw : IntKind.i64.wrap ((o.length : Int) - 1) = ((o.length - 1 : Nat) : Int) := by rw [wrap64 (by omega) (by omega)]; omega
      have hol' : ¬ ((o.length : Int) = 0) := by omega
      simp [x2, e4, e11, o0, hw, hstep]
      exact hN _ _ _ _ (by omega) (List.Sublist.refl _) ⟨by simp [upd, e9], by simp [upd, e10], by simp [upd], o.dropLast, t, rows, by simp [upd], rfl, cut_last hrows, by simp; omega, next _ hp⟩
  simp [x0, x1, x2]
  refine call_fn0 (impl_part hxm) .bool fun _ _ => ?_
  cases hP : pPart x
  · have hp := fails (by simp [pstep, x0, x1, x2, hP])
    simp
    exact fin_sub (List.nil_sublist _) (.refl _) (.inl ⟨hp, rfl, rfl⟩)
  · have hp : pstep o x = some (o ++ [x]) := by simp [pstep, x0, x1, x2, hP]
    simp [e4, e11, hm1, hm2, cutW, hcl, hrows, hstep]
    exact hN _ _ _ _ (by omega) (sub_one _ _) ⟨by simp [upd, e9], by simp [upd, e10], by simp [upd], o ++ [x], _, _, by simp [upd] <;> rfl, rfl, by rw [List.map_append]; exact List.take_of_length_le (by simp), by simp; omega, next _ hp⟩

/-! ### the plain form -/
def normA (l : List UInt8) : List AV := [.str ((normP l).getD []), .bool (normP l).isSome]
theorem free_norm (l : List UInt8) : Free (.tup (normA l)) := free_tup fun a ha => by
  simp [normA] at ha
  rcases ha with rfl | rfl
  · exact free_str _
  · exact free_bool _
theorem joinL_step (l : List (List UInt8)) {i : Nat} (h : i < l.length) : joinL [47] (l.take (i + 1)) = (if 0 < i then joinL [47] (l.take i) ++ [47] else joinL [47] (l.take i)) ++ l[i] := by
  rw [List.take_succ_eq_append_getElem h, joinL_snoc]
  simp only [List.length_take, Nat.min_eq_left (Nat.le_of_lt h)]
  by_cases h0 : 0 < i
  · rw [if_pos h0, if_pos h0]
  · have : i = 0 := by omega
    subst this; simp [joinL_nil]
theorem join_part {l : List UInt8} (i : Nat) : (joinL [47] (((splitP l).getD []).take i)).length ≤ 22 * (l.length + 2) := by
  cases h : splitP l with
  | none => simp [joinL_nil]
  | some o => exact join_short h i
theorem part_len {l x : List UInt8} (h : x ∈ (splitP l).getD []) : x.length ≤ 20 := by
  cases hs : splitP l with
  | none => rw [hs] at h; cases h
  | some o => rw [hs] at h; exact pPart_len ((splitP_ok hs).1 x h)
theorem parts_len (l : List UInt8) : ((splitP l).getD []).length ≤ l.length + 2 := by
  cases hs : splitP l with
  | none => simp
  | some o => exact (splitP_ok hs).2
theorem norm_eq {l : List UInt8} (h : ¬ 400 < l.length) : normP l = if (splitP l).isSome && inR (joinL [47] ((splitP l).getD [])).length 1 60 then some (joinL [47] ((splitP l).getD [])) else none := by
  unfold normP
  rw [if_neg h]
  cases splitP l <;> simp
theorem spec_norm {l : List UInt8} (hl : l.length ≤ mx) : Fnc Tryd.prog 79 [.str l] (.tup (normA l)) := by
  refine fn_of c79 (by simp [F79]) fun c => ?_
  unfold F79
  by_cases h400 : 400 < l.length
  · have k : (400 : Int) < l.length := by omega
    simp [k]
    exact fin_plain ⟨by simp [normA, normP, h400], rfl⟩
  have k : ¬ (400 : Int) < l.length := by omega
  simp [k]
  refine call_tree0 (spl_tr fun c => spec_splitP (by omega) c) fun r _ hc1 ⟨b, e1, q1⟩ _ => ?_
  subst e1
  simp
  have hj := fun i => join_part (l := l) i
  have hpl := parts_len l
  have hpm := fun x => part_len (l := l) (x := x)
  have hne := norm_eq h400
  rw [← q1] at hj hpl hpm hne
  refine loop_drop b.list.length (fun i e H c' => e 4 = b.av 1 encS ∧ e 5 = .bool (splitP l).isSome ∧ e 6 = .str (joinL [47] (b.list.take i)) ∧ e 7 = .int .i64 i ∧ H = []) ⟨rfl, rfl, by simp [upd, joinL_nil], rfl, rfl⟩ ?_
  intro i e H c' hi ⟨e4, e5, e6, e7, hH⟩ N hN
  subst hH
  by_cases h : i < b.list.length
  · have hg : b.list[i]? = some b.list[i] := List.getElem?_eq_getElem h
    have hstep : IntKind.i64.wrap ((i : Int) + 1) = ((i + 1 : Nat) : Int) := by rw [step64 (by unfold mx; omega) h]; rfl
    have hxl := hpm _ (List.getElem_mem h)
    have hjs := joinL_step b.list h
    have hji := hj i
    generalize b.list[i] = x at hg hxl hjs
    generalize joinL [47] (b.list.take i) = J at e6 hjs hji
    by_cases h0 : 0 < i
    · rw [if_pos h0] at hjs
      simp [e4, e6, e7, h, h0, getW_of hg, hstep]
      refine ⟨by unfold mx; omega, by unfold mx; omega, ?_⟩
      exact hN _ _ _ _ h (List.Sublist.refl _) ⟨by simp [upd, e4], by simp [upd, e5], by simp [upd, hjs], by simp [upd], rfl⟩
    · rw [if_neg h0] at hjs
      simp [e4, e6, e7, h, h0, getW_of hg, hstep]
      refine ⟨by unfold mx; omega, ?_⟩
      exact hN _ _ _ _ h (List.Sublist.refl _) ⟨by simp [upd, e4], by simp [upd, e5], by simp [upd, hjs], by simp [upd], rfl⟩
  · have h1 : i = b.list.length := by omega
    subst h1
    rw [List.take_length] at e6
    generalize joinL [47] b.list = J at e6 hne
    cases hs : (splitP l).isSome
    · rw [hs] at hne e5
      simp at hne
      simp [e4, e5, e6, e7]
      exact fin_plain ⟨by simp [normA, hne], rfl⟩
    · rw [hs] at hne e5
      simp [e4, e5, e6, e7]
      refine call_fn0 (l1In_fn _ _ _) .bool fun _ _ => ?_
      cases hr : inR J.length 1 60
      · rw [hr] at hne
        simp at hne
        simp
        exact fin_plain ⟨by simp [normA, hne], rfl⟩
      · rw [hr] at hne
        simp at hne
        simp [e6]
        exact fin_plain ⟨by simp [normA, hne], rfl⟩
theorem impl_norm {l : List UInt8} (hl : l.length ≤ mx) : Fnc Tryd.prog 84 [.str l] (.tup (normA l)) := by
  refine fn_of c84 (by simp [F84]) fun c => ?_
  unfold F84
  by_cases h400 : 400 < l.length
  · have k : (400 : Int) < l.length := by omega
    simp [k]
    exact fin_plain ⟨by simp [normA, normP, h400], rfl⟩
  have k : ¬ (400 : Int) < l.length := by omega
  simp [k]
  refine call_tree0 (spl_tr fun c => impl_splitP (by omega) c) fun r _ hc1 ⟨b, e1, q1⟩ _ => ?_
  subst e1
  simp
  have hj := join_part (l := l) ((splitP l).getD []).length
  have hpl := parts_len l
  have hne := norm_eq h400
  rw [List.take_length] at hj
  rw [← q1] at hj hpl hne
  have hjn : Fnc Tryd.prog 132 [b.av 1 encS, .str [47]] (.str (joinL [47] b.list)) := by
    cases b with
    | nil => exact join_nil_fn _
    | mk t xs => exact join_fn (by simp at hj ⊢; omega) (by simp at hpl ⊢; omega)
  refine call_fn0 hjn .str fun _ _ => ?_
  generalize joinL [47] b.list = J at hne
  cases hs : (splitP l).isSome
  · rw [hs] at hne
    simp at hne
    simp
    exact fin_plain ⟨by simp [normA, hne], rfl⟩
  · rw [hs] at hne
    simp
    refine call_fn0 (inRange_fn _ _ _) .bool fun _ _ => ?_
    cases hr : inR J.length 1 60
    · rw [hr] at hne
      simp at hne
      simp
      exact fin_plain ⟨by simp [normA, hne], rfl⟩
    · rw [hr] at hne
      simp at hne
      simp
      exact fin_plain ⟨by simp [normA, hne], rfl⟩
theorem isN_norm (l : List UInt8) : isN l = ((normP l).isSome && decide ((normP l).getD [] = l)) := by
  unfold isN
  cases normP l <;> simp
theorem spec_isN {l : List UInt8} (hl : l.length ≤ mx) : Fnc Tryd.prog 68 [.str l] (.bool (isN l)) := by
  refine fn_of c68 (by simp [F68]) fun c => ?_
  unfold F68
  simp
  refine call_fn0 (spec_norm hl) (free_norm _ _) fun _ _ => ?_
  rw [isN_norm]
  cases h : (normP l).isSome <;> simp [normA, h]
  · exact fin_plain ⟨rfl, rfl⟩
  · exact fin_plain ⟨rfl, rfl⟩
theorem impl_isN {l : List UInt8} (hl : l.length ≤ mx) : Fnc Tryd.prog 71 [.str l] (.bool (isN l)) := by
  refine fn_of c71 (by simp [F71]) fun c => ?_
  unfold F71
  simp
  refine call_fn0 (impl_norm hl) (free_norm _ _) fun _ _ => ?_
  rw [isN_norm]
  cases h : (normP l).isSome <;> simp [normA, h]
  · exact fin_plain ⟨rfl, rfl⟩
  · exact fin_plain ⟨rfl, rfl⟩
end A
end Go.Proofs.YtfcimcoanlgldaaDoor

/-
  UnescapeURL of the reference and of the program are the same plain function. No condition.
-/

namespace Go.Proofs.YtfcimcoanlgldaaDoor
namespace A
set_option linter.unusedVariables false
set_option linter.unusedSimpArgs false
set_option maxRecDepth 100000

/-- a hexadecimal digit's value -/
def hxv (b : UInt8) : Option Nat := if inR b.toNat 48 57 then some (b.toNat - 48) else if inR b.toNat 65 70 then some (b.toNat - 55) else if inR b.toNat 97 102 then some (b.toNat - 87) else none
theorem hxv_lt {b : UInt8} {n : Nat} (h : hxv b = some n) : n < 16 := by
  unfold hxv at h
  split at h
  · rename_i h1; have := inR_true h1; cases h; omega
  · split at h
    · rename_i h1; have := inR_true h1; cases h; omega
    · split at h
      · rename_i h1; have := inR_true h1; cases h; omega
      · cases h
def stp (a : Option Nat) (b : UInt8) : Option Nat := a.bind fun a => (hxv b).map (16 * a + ·)
def two (l : List UInt8) : Option Nat :=
  match l with
  | x :: y :: _ => stp (stp (some 0) x) y
  | _ => none
theorem two_lt {l : List UInt8} {n : Nat} (h : two l = some n) : n < 256 := by
  match l with
  | [] => cases h
  | [_] => cases h
  | x :: y :: r =>
    simp only [two, stp, Option.bind_some, Nat.mul_zero, Nat.zero_add] at h
    cases hx : hxv x with
    | none => rw [hx] at h; cases h
    | some m =>
      rw [hx] at h
      cases hy : hxv y with
      | none => rw [hy] at h; cases h
      | some k =>
        rw [hy] at h
        have h1 := hxv_lt hx
        have h2 := hxv_lt hy
        simp at h
        omega
theorem drop_two {l : List UInt8} {p : Nat} {x y : UInt8} (hx : l[p]? = some x) (hy : l[p + 1]? = some y) : l.drop p = x :: y :: l.drop (p + 2) := by
  obtain ⟨h1, rfl⟩ := List.getElem?_eq_some_iff.1 hx
  obtain ⟨h2, rfl⟩ := List.getElem?_eq_some_iff.1 hy
  rw [List.drop_eq_getElem_cons h1, List.drop_eq_getElem_cons h2]
theorem two_short {l : List UInt8} {p : Nat} (h : l.length < p + 2) : two (l.drop p) = none := by
  have hl : (l.drop p).length < 2 := by rw [List.length_drop]; omega
  match l.drop p, hl with
  | [], _ => rfl
  | [_], _ => rfl

/-- what is read out of a text of an address -/
def une (l : List UInt8) : Option (List UInt8) :=
  match l with
  | [] => some []
  | b :: r =>
    if b.toNat = 43 then (une r).map (32 :: ·)
    else if b.toNat = 37 then (two r).bind fun n => (une (r.drop 2)).map (UInt8.ofNat n :: ·)
    else (une r).map (b :: ·)
termination_by l.length
decreasing_by all_goals simp_wf; all_goals omega
theorem une_nil : une [] = some [] := by rw [une]
theorem une_len : ∀ (n : Nat) (l o : List UInt8), l.length ≤ n → une l = some o → o.length ≤ l.length
  | n, [], o, _, h => by rw [une_nil] at h; cases h; simp
  | 0, b :: r, o, hn, h => by simp at hn
  | n + 1, b :: r, o, hn, h => by
    rw [une] at h
    simp at hn
    split at h
    · cases hu : une r with
      | none => rw [hu] at h; cases h
      | some o' => rw [hu] at h; cases h; have := une_len n r o' hn hu; simp; omega
    · split at h
      · cases ht : two r with
        | none => rw [ht] at h; cases h
        | some k =>
          rw [ht] at h
          simp at h
          obtain ⟨o', hu, rfl⟩ := h
          have := une_len n (r.drop 2) o' (by simp; omega) hu
          simp at this ⊢; omega
      · cases hu : une r with
        | none => rw [hu] at h; cases h
        | some o' => rw [hu] at h; cases h; have := une_len n r o' hn hu; simp; omega
def unO (l : List UInt8) : List AV := [.str ((une l).getD []), .bool (une l).isSome]

theorem l4Two_fn {l : List UInt8} {p : Nat} (hl : l.length ≤ 4611686018427387904) (hp : p ≤ l.length) :
    Fnc Tryd.prog 167 [.str l, .int .i64 p, .bool true] (.int .i64 (match two (l.drop p) with | some n => (n : Int) | none => -1)) := by
  refine fn_of c167 (by simp [F167]) fun c => ?_
  unfold F167
  have w1 : IntKind.i64.wrap ((l.length : Int) - 2) = (l.length : Int) - 2 := wrap64 (by omega) (by omega)
  simp [w1]
  refine ⟨fun h => fin_plain ⟨by rw [two_short (by omega)], rfl⟩, fun h => ?_⟩
  have hx : l[p]? = some l[p] := List.getElem?_eq_getElem (by omega)
  have hy : l[p + 1]? = some l[p + 1] := List.getElem?_eq_getElem (by omega)
  have hd := drop_two hx hy
  generalize l[p] = x at hx hd
  generalize l[p + 1] = y at hy hd
  rw [hd]
  show irW _ _ _ _ _ _
  refine loop_drop 2 (fun i e H c' => e 0 = .str l ∧ e 1 = .int .i64 p ∧ e 2 = .bool true ∧ e 8 = .int .i64 i ∧ (∃ a : Nat, ([x, y].take i).foldl stp (some 0) = some a ∧ a < 256 ∧ e 7 = .int .i64 a) ∧ H = []) ⟨rfl, rfl, rfl, rfl, ⟨0, rfl, by omega, rfl⟩, rfl⟩ ?_
  intro i e H c hi ⟨e0, e1, e2, e8, ⟨a, ha, ha2, e7⟩, hH⟩ N hN
  subst hH
  have hi3 : i = 0 ∨ i = 1 ∨ i = 2 := by omega
  rcases hi3 with rfl | rfl | rfl
  case inr.inr =>
    simp [e7, e8]
    exact fin_plain ⟨by simp at ha; simp [two, ha], rfl⟩
  all_goals
    have bx := x.toNat_lt
    have by' := y.toNat_lt
    simp at ha
  case inl =>
    subst ha
    simp (disch := first | rfl | decide | omega | simp) [wrap64, e0, e1, e2, e7, e8, getW_of hx]
    refine call_fn0 (l1In_fn _ _ _) .bool fun _ _ => ?_
    cases h1 : inR x.toNat 48 57
    case true =>
      have g1 := inR_true h1
      have hv : hxv x = some (x.toNat - 48) := by simp [hxv, h1]
      simp (disch := first | rfl | decide | omega | simp) [wrap64, e0, e1, e2, e7, e8]
      refine hN _ _ _ _ (by omega) (List.Sublist.refl _) ⟨by simp [upd, e0], by simp [upd, e1], by simp [upd, e2], by simp [upd, wrap64], ⟨x.toNat - 48, by simp [stp, hv], by omega, by simp [upd]; omega⟩, rfl⟩
    simp (disch := first | rfl | decide | omega | simp) [wrap64, e0, e1, e2, e7, e8]
    refine call_fn0 (l1In_fn _ _ _) .bool fun _ _ => ?_
    cases h2 : inR x.toNat 65 70
    case true =>
      have g1 := inR_true h2
      have hv : hxv x = some (x.toNat - 55) := by simp [hxv, h1, h2]
      simp (disch := first | rfl | decide | omega | simp) [wrap64, e0, e1, e2, e7, e8]
      refine hN _ _ _ _ (by omega) (List.Sublist.refl _) ⟨by simp [upd, e0], by simp [upd, e1], by simp [upd, e2], by simp [upd, wrap64], ⟨x.toNat - 55, by simp [stp, hv], by omega, by simp [upd]; omega⟩, rfl⟩
    simp (disch := first | rfl | decide | omega | simp) [wrap64, e0, e1, e2, e7, e8]
    refine call_fn0 (l1In_fn _ _ _) .bool fun _ _ => ?_
    cases h3 : inR x.toNat 97 102
    case true =>
      have g1 := inR_true h3
      have hv : hxv x = some (x.toNat - 87) := by simp [hxv, h1, h2, h3]
      simp (disch := first | rfl | decide | omega | simp) [wrap64, e0, e1, e2, e7, e8]
      refine hN _ _ _ _ (by omega) (List.Sublist.refl _) ⟨by simp [upd, e0], by simp [upd, e1], by simp [upd, e2], by simp [upd, wrap64], ⟨x.toNat - 87, by simp [stp, hv], by omega, by simp [upd]; omega⟩, rfl⟩
    simp (disch := first | rfl | decide | omega | simp) [wrap64, e0, e1, e2, e7, e8]
    exact fin_plain ⟨by simp [two, stp, hxv, h1, h2, h3], rfl⟩
  case inr.inl =>
    have ha' : hxv x = some a := by
      cases hv : hxv x with
      | none => simp [stp, hv] at ha
      | some v => simp [stp, hv] at ha; rw [ha]
    have hal := hxv_lt ha'
    simp (disch := first | rfl | decide | omega | simp) [wrap64, e0, e1, e2, e7, e8, getW_of hy]
    refine ⟨by omega, ?_⟩
    refine call_fn0 (l1In_fn _ _ _) .bool fun _ _ => ?_
    cases h1 : inR y.toNat 48 57
    case true =>
      have g1 := inR_true h1
      have hv : hxv y = some (y.toNat - 48) := by simp [hxv, h1]
      simp (disch := first | rfl | decide | omega | simp) [wrap64, e0, e1, e2, e7, e8]
      refine hN _ _ _ _ (by omega) (List.Sublist.refl _) ⟨by simp [upd, e0], by simp [upd, e1], by simp [upd, e2], by simp [upd, wrap64], ⟨16 * a + (y.toNat - 48), by simp [stp, hv, ha'], by omega, by simp [upd]; omega⟩, rfl⟩
    simp (disch := first | rfl | decide | omega | simp) [wrap64, e0, e1, e2, e7, e8]
    refine call_fn0 (l1In_fn _ _ _) .bool fun _ _ => ?_
    cases h2 : inR y.toNat 65 70
    case true =>
      have g1 := inR_true h2
      have hv : hxv y = some (y.toNat - 55) := by simp [hxv, h1, h2]
      simp (disch := first | rfl | decide | omega | simp) [wrap64, e0, e1, e2, e7, e8]
      refine hN _ _ _ _ (by omega) (List.Sublist.refl _) ⟨by simp [upd, e0], by simp [upd, e1], by simp [upd, e2], by simp [upd, wrap64], ⟨16 * a + (y.toNat - 55), by simp [stp, hv, ha'], by omega, by simp [upd]; omega⟩, rfl⟩
    simp (disch := first | rfl | decide | omega | simp) [wrap64, e0, e1, e2, e7, e8]
    refine call_fn0 (l1In_fn _ _ _) .bool fun _ _ => ?_
    cases h3 : inR y.toNat 97 102
    case true =>
      have g1 := inR_true h3
      have hv : hxv y = some (y.toNat - 87) := by simp [hxv, h1, h2, h3]
      simp (disch := first | rfl | decide | omega | simp) [wrap64, e0, e1, e2, e7, e8]
      refine hN _ _ _ _ (by omega) (List.Sublist.refl _) ⟨by simp [upd, e0], by simp [upd, e1], by simp [upd, e2], by simp [upd, wrap64], ⟨16 * a + (y.toNat - 87), by simp [stp, hv, ha'], by omega, by simp [upd]; omega⟩, rfl⟩
    simp (disch := first | rfl | decide | omega | simp) [wrap64, e0, e1, e2, e7, e8]
    exact fin_plain ⟨by simp [two, stp, hxv, h1, h2, h3, ha'], rfl⟩

theorem hexValue_fn (b : UInt8) : Fnc Tryd.prog 168 [.int .u8 b.toNat, .bool true] (.tup [.int .u8 ((hxv b).getD 0 : Nat), .bool (hxv b).isSome]) := by
  refine fn_of c168 (by simp [F168]) fun c => ?_
  unfold F168
  have bx := b.toNat_lt
  simp
  refine call_fn0 (isDigit_fn b) .bool fun _ _ => ?_
  cases h1 : isD b
  case true =>
    have g1 := inR_true (show inR b.toNat 48 57 = true from h1)
    simp
    exact fin_plain ⟨by simp [hxv, show inR b.toNat 48 57 = true from h1, IntKind.wrap_u8]; omega, rfl⟩
  have h1' : inR b.toNat 48 57 = false := h1
  by_cases g2 : 65 ≤ b.toNat
  · have k2 : (65 : Int) ≤ b.toNat := by omega
    by_cases g3 : b.toNat ≤ 70
    · have k3 : (b.toNat : Int) ≤ 70 := by omega
      have i2 : inR b.toNat 65 70 = true := by simp [inR, k2, k3]
      simp [k2, k3]
      exact fin_plain ⟨by simp [hxv, h1', i2, IntKind.wrap_u8]; omega, rfl⟩
    · have k3 : ¬ (b.toNat : Int) ≤ 70 := by omega
      have i2 : inR b.toNat 65 70 = false := by simp [inR, k2, k3]
      by_cases g4 : 97 ≤ b.toNat
      · have k4 : (97 : Int) ≤ b.toNat := by omega
        by_cases g5 : b.toNat ≤ 102
        · have k5 : (b.toNat : Int) ≤ 102 := by omega
          have i3 : inR b.toNat 97 102 = true := by simp [inR, k4, k5]
          simp [k2, k3, k4, k5]
          exact fin_plain ⟨by simp [hxv, h1', i2, i3, IntKind.wrap_u8]; omega, rfl⟩
        · have k5 : ¬ (b.toNat : Int) ≤ 102 := by omega
          have i3 : inR b.toNat 97 102 = false := by simp [inR, k4, k5]
          simp [k2, k3, k4, k5]
          exact fin_plain ⟨by simp [hxv, h1', i2, i3], rfl⟩
      · have k4 : ¬ (97 : Int) ≤ b.toNat := by omega
        have i3 : inR b.toNat 97 102 = false := by simp [inR, k4]
        simp [k2, k3, k4]
        exact fin_plain ⟨by simp [hxv, h1', i2, i3], rfl⟩
  · have k2 : ¬ (65 : Int) ≤ b.toNat := by omega
    have k4 : ¬ (97 : Int) ≤ b.toNat := by omega
    have i2 : inR b.toNat 65 70 = false := by simp [inR, k2]
    have i3 : inR b.toNat 97 102 = false := by simp [inR, k4]
    simp [k2, k4]
    exact fin_plain ⟨by simp [hxv, h1', i2, i3], rfl⟩
def HexQ (l : List UInt8) (p : Nat) (r : AV) : Prop := ∃ v : Int, r = .tup [.int .u8 v, .bool (two (l.drop p)).isSome] ∧ ∀ n, two (l.drop p) = some n → v = n
theorem hexPair_tr {l : List UInt8} {p : Nat} (hl : l.length ≤ 4611686018427387904) (hp : p ≤ l.length) :
    Tr Tryd.prog 144 [.str l, .int .i64 p, .bool true] fun _ r => HexQ l p r := by
  have fr : ∀ (c : Nat) (v : Int) (b : Bool), From c (.tup [.int .u8 v, .bool b]) := fun c v b => from_tup (by simp)
  intro c
  refine con_of c144 (by simp [F144]) ?_
  unfold F144
  simp (disch := first | rfl | decide | omega | simp) [wrap64, ]
  refine ⟨fun h => fin_plain ⟨rfl, ⟨0, by rw [two_short (by omega)]; rfl, fun n hn => ?_⟩, fr _ _ _⟩, fun h => ?_⟩
  · rw [two_short (by omega)] at hn; cases hn
  have hx : l[p]? = some l[p] := List.getElem?_eq_getElem (by omega)
  have hy : l[p + 1]? = some l[p + 1] := List.getElem?_eq_getElem (by omega)
  have hd := drop_two hx hy
  generalize l[p] = x at hx hd
  generalize l[p + 1] = y at hy hd
  simp (disch := first | rfl | decide | omega | simp) [wrap64, getW_of hx]
  refine call_fn0 (hexValue_fn x) (free_tup (by simp [free_int, free_bool]) _) fun _ _ => ?_
  simp (disch := first | rfl | decide | omega | simp) [wrap64, getW_of hy]
  refine ⟨by omega, ?_⟩
  refine call_fn0 (hexValue_fn y) (free_tup (by simp [free_int, free_bool]) _) fun _ _ => ?_
  have hv : ∀ m n, hxv x = some m → hxv y = some n → IntKind.u8.wrap (IntKind.u8.wrap ((m : Int) * 16) + n) = ((16 * m + n : Nat) : Int) := fun m n h1 h2 => by
    have := hxv_lt h1
    have := hxv_lt h2
    rw [IntKind.wrap_u8, IntKind.wrap_u8]
    omega
  have htw : two (l.drop p) = stp (stp (some 0) x) y := by rw [hd]; rfl
  cases h1 : hxv x with
  | none =>
    have ht : two (l.drop p) = none := by rw [htw]; simp [stp, h1]
    simp (disch := first | rfl | decide | omega | simp) [wrap64, ]
    exact fin_plain ⟨rfl, ⟨_, by rw [ht]; rfl, fun n hn => by rw [ht] at hn; cases hn⟩, fr _ _ _⟩
  | some m =>
    cases h2 : hxv y with
    | none =>
      have ht : two (l.drop p) = none := by rw [htw]; simp [stp, h1, h2]
      simp (disch := first | rfl | decide | omega | simp) [wrap64, ]
      exact fin_plain ⟨rfl, ⟨_, by rw [ht]; rfl, fun n hn => by rw [ht] at hn; cases hn⟩, fr _ _ _⟩
    | some n =>
      have ht : two (l.drop p) = some (16 * m + n) := by rw [htw]; simp [stp, h1, h2]
      simp (disch := first | rfl | decide | omega | simp) [wrap64, ]
      exact fin_plain ⟨rfl, ⟨_, by rw [ht]; rfl, fun k hk => by rw [ht] at hk; cases hk; exact hv m n h1 h2⟩, fr _ _ _⟩

theorem une_step {l : List UInt8} {p : Nat} {b : UInt8} (hb : l[p]? = some b) : une (l.drop p) = if b.toNat = 43 then (une (l.drop (p + 1))).map (32 :: ·) else if b.toNat = 37 then (two (l.drop (p + 1))).bind fun n => (une (l.drop (p + 3))).map (UInt8.ofNat n :: ·) else (une (l.drop (p + 1))).map (b :: ·) := by
  obtain ⟨h1, rfl⟩ := List.getElem?_eq_some_iff.1 hb
  rw [List.drop_eq_getElem_cons h1, une, List.drop_drop]
theorem une_map {l : List UInt8} {p q : Nat} {o x : List UInt8} (h : une l = (une (l.drop p)).map (o ++ ·)) (h2 : une (l.drop p) = (une (l.drop q)).map (x ++ ·)) : une l = (une (l.drop q)).map ((o ++ x) ++ ·) := by
  rw [h, h2, Option.map_map]
  congr 1
  funext y
  simp
theorem specUne_fn {l : List UInt8} (hl : l.length ≤ 1048576) : Fnc Tryd.prog 143 [.str l] (.tup (unO l)) := by
  refine fn_of c143 (by simp [F143]) fun c => ?_
  unfold F143
  simp
  refine loop_drop l.length (fun i e H c' => ∃ p : Nat, i ≤ p ∧ p ≤ l.length ∧ e 0 = .str l ∧ e 5 = .int .i64 p ∧ (∃ (o : List UInt8) (t : Nat), o.length ≤ p ∧ une l = (une (l.drop p)).map (o ++ ·) ∧ e 4 = .ref 0 t 1 o.length ∧ H = [⟨false, t, 1, o.map byteRow⟩])) ⟨0, by omega, by omega, rfl, rfl, [], _, by simp, by simp, rfl, rfl⟩ ?_
  intro i e H c hi ⟨p, hip, hp, e0, e5, o, t, hop, ho, e4, hH⟩ N hN
  subst hH
  have hm1 : o.length + 1 ≤ 140737488355328 := by omega
  have hm2 : o.length + 1 ≤ mx := by unfold mx; omega
  by_cases hpl : p < l.length
  case neg =>
    have hpe : p = l.length := by omega
    subst hpe
    have hu : une l = some o := by rw [ho, List.drop_length, une_nil]; simp
    simp [e0, e4, e5]
    refine toStrW_ref (l := o) rfl rfl (by unfold mx; omega) ?_
    simp
    exact fin_sub (List.nil_sublist _) (.refl _) ⟨by simp [unO, hu], rfl⟩
  have hb : l[p]? = some l[p] := List.getElem?_eq_getElem hpl
  generalize l[p] = b at hb
  have hst := une_step hb
  have hbl := b.toNat_lt
  by_cases g1 : b.toNat = 43
  · have k1 : (b.toNat : Int) = 43 := by omega
    rw [if_pos g1] at hst
    simp (disch := first | rfl | decide | omega | simp) [wrap64, e0, e4, e5, hpl, getW_of hb, k1, hm1, hm2]
    refine hN _ _ _ _ (by omega) (sub_one _ _) ⟨p + 1, by omega, by omega, by simp [upd, e0], by simp [upd], o ++ [32], _, by simp; omega, une_map ho hst, by simp [upd]; rfl, by simp [byteRow]⟩
  have k1 : ¬ (b.toNat : Int) = 43 := by omega
  rw [if_neg g1] at hst
  by_cases g2 : b.toNat = 37
  · have k2 : (b.toNat : Int) = 37 := by omega
    rw [if_pos g2] at hst
    simp (disch := first | rfl | decide | omega | simp) [wrap64, e0, e4, e5, hpl, getW_of hb, k2]
    refine call_fn0 (l4Two_fn (p := p + 1) (by omega) (by omega)) .int fun _ _ => ?_
    cases h2 : two (l.drop (p + 1)) with
    | none =>
      rw [h2] at hst
      have hu : une l = none := by rw [ho, hst]; rfl
      simp (disch := first | rfl | decide | omega | simp) [wrap64, e0, e4, e5, hpl, h2]
      exact fin_plain ⟨by simp [unO, hu], rfl⟩
    | some n =>
      have hn := two_lt h2
      rw [h2] at hst
      simp only [Option.bind_some] at hst
      have hroom : p + 3 ≤ l.length := by
        rcases Nat.lt_or_ge l.length (p + 3) with h | h
        · rw [two_short (by omega)] at h2; cases h2
        · exact h
      have hneg : ¬ (n : Int) < 0 := by omega
      have hw : IntKind.u8.wrap (n : Int) = ((UInt8.ofNat n).toNat : Int) := by rw [IntKind.wrap_u8]; simp [UInt8.toNat_ofNat']
      simp (disch := first | rfl | decide | omega | simp) [wrap64, e0, e4, e5, hpl, h2, hneg, hm1, hm2]
      refine hN _ _ _ _ (by omega) (sub_one _ _) ⟨p + 3, by omega, by omega, by simp [upd, e0], by simp [upd]; omega, o ++ [UInt8.ofNat n], _, by simp; omega, une_map ho hst, by simp [upd]; rfl, by simp [byteRow, hw]⟩
  have k2 : ¬ (b.toNat : Int) = 37 := by omega
  rw [if_neg g2] at hst
  simp (disch := first | rfl | decide | omega | simp) [wrap64, e0, e4, e5, hpl, getW_of hb, k1, k2, hm1, hm2]
  refine hN _ _ _ _ (by omega) (sub_one _ _) ⟨p + 1, by omega, by omega, by simp [upd, e0], by simp [upd], o ++ [b], _, by simp; omega, une_map ho hst, by simp [upd]; rfl, by simp [byteRow]⟩
theorem implUne_fn {l : List UInt8} (hl : l.length ≤ 1048576) : Fnc Tryd.prog 113 [.str l] (.tup (unO l)) := by
  refine fn_of c113 (by simp [F113]) fun c => ?_
  unfold F113
  simp
  refine loop_drop l.length (fun i e H c' => ∃ p : Nat, i ≤ p ∧ p ≤ l.length ∧ e 0 = .str l ∧ e 5 = .int .i64 p ∧ (∃ (o : List UInt8) (t : Nat), o.length ≤ p ∧ une l = (une (l.drop p)).map (o ++ ·) ∧ e 4 = .ref 0 t 1 o.length ∧ H = [⟨false, t, 1, o.map byteRow⟩])) ⟨0, by omega, by omega, rfl, rfl, [], _, by simp, by simp, rfl, rfl⟩ ?_
  intro i e H c hi ⟨p, hip, hp, e0, e5, o, t, hop, ho, e4, hH⟩ N hN
  subst hH
  have hm1 : o.length + 1 ≤ 140737488355328 := by omega
  have hm2 : o.length + 1 ≤ mx := by unfold mx; omega
  by_cases hpl : p < l.length
  case neg =>
    have hpe : p = l.length := by omega
    subst hpe
    have hu : une l = some o := by rw [ho, List.drop_length, une_nil]; simp
    simp [e0, e4, e5]
    refine toStrW_ref (l := o) rfl rfl (by unfold mx; omega) ?_
    simp
    exact fin_sub (List.nil_sublist _) (.refl _) ⟨by simp [unO, hu], rfl⟩
  have hb : l[p]? = some l[p] := List.getElem?_eq_getElem hpl
  generalize l[p] = b at hb
  have hst := une_step hb
  have hbl := b.toNat_lt
  by_cases g1 : b.toNat = 43
  · have k1 : (b.toNat : Int) = 43 := by omega
    rw [if_pos g1] at hst
    simp (disch := first | rfl | decide | omega | simp) [wrap64, e0, e4, e5, hpl, getW_of hb, k1, hm1, hm2]
    refine hN _ _ _ _ (by omega) (sub_one _ _) ⟨p + 1, by omega, by omega, by simp [upd, e0], by simp [upd], o ++ [32], _, by simp; omega, une_map ho hst, by simp [upd]; rfl, by simp [byteRow]⟩
  have k1 : ¬ (b.toNat : Int) = 43 := by omega
  rw [if_neg g1] at hst
  by_cases g2 : b.toNat = 37
  · have k2 : (b.toNat : Int) = 37 := by omega
    rw [if_pos g2] at hst
    simp (disch := first | rfl | decide | omega | simp) [wrap64, e0, e4, e5, hpl, getW_of hb, k2]
    refine call_tree0 (hexPair_tr (p := p + 1) (by omega) (by omega)) fun r _ _ ⟨v, e1, hv⟩ _ => ?_
    subst e1
    cases h2 : two (l.drop (p + 1)) with
    | none =>
      rw [h2] at hst
      have hu : une l = none := by rw [ho, hst]; rfl
      simp (disch := first | rfl | decide | omega | simp) [wrap64, e0, e4, e5, hpl, h2]
      exact fin_plain ⟨by simp [unO, hu], rfl⟩
    | some n =>
      have hn := two_lt h2
      have hv := hv n h2
      subst hv
      rw [h2] at hst
      simp only [Option.bind_some] at hst
      have hroom : p + 3 ≤ l.length := by
        rcases Nat.lt_or_ge l.length (p + 3) with h | h
        · rw [two_short (by omega)] at h2; cases h2
        · exact h
      have hw : (n : Int) = ((UInt8.ofNat n).toNat : Int) := by simp [UInt8.toNat_ofNat']; omega
      simp (disch := first | rfl | decide | omega | simp) [wrap64, e0, e4, e5, hpl, h2, hm1, hm2]
      refine hN _ _ _ _ (by omega) (sub_one _ _) ⟨p + 3, by omega, by omega, by simp [upd, e0], by simp [upd]; omega, o ++ [UInt8.ofNat n], _, by simp; omega, une_map ho hst, by simp [upd]; rfl, by simp [byteRow]; omega⟩
  have k2 : ¬ (b.toNat : Int) = 37 := by omega
  rw [if_neg g2] at hst
  simp (disch := first | rfl | decide | omega | simp) [wrap64, e0, e4, e5, hpl, getW_of hb, k1, k2, hm1, hm2]
  refine hN _ _ _ _ (by omega) (sub_one _ _) ⟨p + 1, by omega, by omega, by simp [upd, e0], by simp [upd], o ++ [b], _, by simp; omega, une_map ho hst, by simp [upd]; rfl, by simp [byteRow]⟩
end A
end Go.Proofs.YtfcimcoanlgldaaDoor

/-
  The types that the laws of this seat speak of, and the helpers over them: printed by a program (wip/tools/gen.py). No condition.
-/


namespace Go.Proofs.YtfcimcoanlgldaaDoor
namespace A
set_option linter.unusedVariables false
set_option linter.unusedSimpArgs false
set_option maxRecDepth 100000

structure TPair where
  Name : List UInt8
  Value : List UInt8
def TPair.enc (s : TPair) : List AV := [.str s.Name, .str s.Value]
@[simp] theorem TPair.len (s : TPair) : s.enc.length = 2 := (rfl)
@[simp] theorem TPair.all (s : TPair) : s.enc.take 2 = s.enc := (rfl)
@[simp] theorem TPair.g0 (s : TPair) (K : AV → Prop) : getW s.enc 0 K = K (.str s.Name) := by simp [TPair.enc]
@[simp] theorem TPair.g1 (s : TPair) (K : AV → Prop) : getW s.enc 1 K = K (.str s.Value) := by simp [TPair.enc]
theorem TPair.cells (s : TPair) : ∀ a, a ∈ s.enc → a.cell = true := by simp [TPair.enc]
def TPair.sz (s : TPair) : Nat := s.Name.length + s.Value.length
def TPair.ok (s : TPair) : Prop := s.Name.length ≤ mx ∧ s.Value.length ≤ mx
def TPair.con (s : TPair) : TPair := s
theorem TPair.sz_con (s : TPair) : s.con.sz = s.sz := rfl
theorem TPair.sh : ∀ (n : Nat) (row : List AV), ShC Tryd.prog n 139 row → ∃ s : TPair, row = s.enc ∧ s.ok := by
  intro n row h
  obtain ⟨m, hl, hf⟩ := sh_fields (l := [(9, 0), (9, 1)]) (by kernel_rfl) h
  have hl' : row.length = 2 := hl.trans (by kernel_rfl)
  match row, hl' with
  | [x0, x1], _ =>
    have h0 := hf (9, 0) (by simp)
    rw [show Tryd.prog.cellsOf 9 = 1 by kernel_rfl] at h0
    obtain ⟨v0, rfl, k0⟩ := sh_str (t := 9) (by kernel_rfl) (show ShC Tryd.prog m 9 [x0] from h0)
    have h1 := hf (9, 1) (by simp)
    rw [show Tryd.prog.cellsOf 9 = 1 by kernel_rfl] at h1
    obtain ⟨v1, rfl, k1⟩ := sh_str (t := 9) (by kernel_rfl) (show ShC Tryd.prog m 9 [x1] from h1)
    exact ⟨⟨v0, v1⟩, rfl, ⟨k0, k1⟩⟩
theorem TPair.sz_fn {s : TPair} (hs : s.ok) {left : Int} (hl : Room left) : Fnc Tryd.prog 123 [.agg s.enc, .int .i64 left] (.int .i64 (szOf s.sz left)) := by
  unfold TPair.ok at hs
  have hr := hl.2
  refine fn_of c123 (by simp [F123]) fun c => ?_
  unfold F123
  simp
  rw [szOf_wrap hs.1 hl]
  refine ⟨fun h => fin_plain ⟨by rw [szOf_neg (by simp only [TPair.sz]; omega)], rfl⟩, fun h => ?_⟩
  rw [szOf_wrap hs.2 ⟨by omega, by omega⟩]
  refine ⟨fun h => fin_plain ⟨by rw [szOf_neg (by simp only [TPair.sz]; omega)], rfl⟩, fun h => ?_⟩
  have hz : s.sz = s.Name.length + s.Value.length := rfl
  have e : szOf s.sz left = left - (s.Name.length : Int) - (s.Value.length : Int) := by
    unfold szOf
    rw [if_pos (by omega)]
    omega
  exact fin_plain ⟨by rw [e], rfl⟩
theorem TPair.to_fn {s : TPair} (h : s.sz ≤ 1048576) : Tr Tryd.prog 124 [.agg s.enc] fun _ r => ∃ b : TPair, r = .agg b.enc ∧ b.con = s.con := by
  simp only [TPair.sz] at h
  intro c
  refine con_of c124 (by simp [F124]) ?_
  unfold F124
  simp [putA]
  refine fin_plain ⟨rfl, ⟨⟨s.Name, s.Value⟩, rfl, ?_⟩, from_agg ?_⟩
  · rfl
  · simp
theorem TPair.eq_fn {a b : TPair} (h : a.sz ≤ 1099511627776) (he : a.con = b.con) : Fnc Tryd.prog 52 [.agg a.enc, .agg b.enc] (.bool true) := by
  simp only [TPair.sz] at h
  have e0 : a.Name = b.Name := (congrArg TPair.Name he : a.con.Name = b.con.Name)
  have e1 : a.Value = b.Value := (congrArg TPair.Value he : a.con.Value = b.con.Value)
  refine fn_of c52 (by simp [F52]) fun c => ?_
  unfold F52
  simp [e0, e1]
  exact fin_plain ⟨rfl, rfl⟩
def szPairS (s : SL TPair) : Nat := s.list.length + szL TPair.sz s.list
def okPairS (s : SL TPair) : Prop := s.list.length ≤ mx ∧ ∀ x, x ∈ s.list → TPair.ok x
theorem szPairS_con {s t : SL TPair} (h : s.list.map TPair.con = t.list.map TPair.con) : szPairS s = szPairS t := by
  unfold szPairS
  rw [← szL_map (con := TPair.con) TPair.sz_con s.list, ← szL_map (con := TPair.con) TPair.sz_con t.list, h]
  have := congrArg List.length h; simp at this; rw [this]
theorem shPairS {n : Nat} {a : AV} (h : ShC Tryd.prog n 46 [a]) : ∃ s : SL TPair, a = s.av 2 TPair.enc ∧ okPairS s := by
  obtain ⟨s, h1, h2, h3⟩ := sh_slc (P := Tryd.prog) (t := 46) (el := 139) (w := 2) (enc := TPair.enc) (ok := TPair.ok) (by kernel_rfl) (by kernel_rfl) (TPair.sh) h
  exact ⟨s, h1, h2, h3⟩
theorem szPairS_fn {s : SL TPair} (hs : okPairS s) {left : Int} (hl : Room left) : Fnc Tryd.prog 67 [s.av 2 TPair.enc, .int .i64 left] (.int .i64 (szOf (szPairS s) left)) :=
  szS_fn (g := 123) c67 (fun _ => rfl) hs.1 hl fun x hx left hl => TPair.sz_fn (hs.2 x hx) hl
theorem toPairS_fn {s : SL TPair} (h : szPairS s ≤ 1048576) : Tr Tryd.prog 70 [s.av 2 TPair.enc] fun _ r => ∃ b : SL TPair, r = b.av 2 TPair.enc ∧ b.list.map TPair.con = s.list.map TPair.con := by
  unfold szPairS at h
  exact toS_fn (g := 124) (z := [.str [], .str []]) (bytes := 32) c70 rfl (fun _ => rfl) (fun x => TPair.cells x) (by omega) (by omega) fun x hx => TPair.to_fn (by have := szL_mem (sz := TPair.sz) hx; omega)
theorem eqPairS_fn {s t : SL TPair} (h : szPairS s ≤ 1099511627776) (he : s.list.map TPair.con = t.list.map TPair.con) : Fnc Tryd.prog 14 [s.av 2 TPair.enc, t.av 2 TPair.enc] (.bool true) := by
  unfold szPairS at h
  exact eqS_fn (g := 52) (con := TPair.con) c14 (fun _ => rfl) (by unfold mx; omega) he fun x hx y hxy => TPair.eq_fn (by have := szL_mem (sz := TPair.sz) hx; omega) hxy
structure TRequest where
  Path : List UInt8
  Query : SL TPair
  Cookies : SL TPair
def TRequest.enc (s : TRequest) : List AV := [.str s.Path, s.Query.av 2 TPair.enc, s.Cookies.av 2 TPair.enc]
@[simp] theorem TRequest.len (s : TRequest) : s.enc.length = 3 := (rfl)
@[simp] theorem TRequest.all (s : TRequest) : s.enc.take 3 = s.enc := (rfl)
@[simp] theorem TRequest.g0 (s : TRequest) (K : AV → Prop) : getW s.enc 0 K = K (.str s.Path) := by simp [TRequest.enc]
@[simp] theorem TRequest.g1 (s : TRequest) (K : AV → Prop) : getW s.enc 1 K = K (s.Query.av 2 TPair.enc) := by simp [TRequest.enc]
@[simp] theorem TRequest.g2 (s : TRequest) (K : AV → Prop) : getW s.enc 2 K = K (s.Cookies.av 2 TPair.enc) := by simp [TRequest.enc]
theorem TRequest.cells (s : TRequest) : ∀ a, a ∈ s.enc → a.cell = true := by simp [TRequest.enc]
def TRequest.sz (s : TRequest) : Nat := s.Path.length + (szPairS s.Query) + (szPairS s.Cookies)
def TRequest.ok (s : TRequest) : Prop := s.Path.length ≤ mx ∧ okPairS s.Query ∧ okPairS s.Cookies
def TRequest.con (s : TRequest) : TRequest := { s with Query := s.Query.con TPair.con, Cookies := s.Cookies.con TPair.con }
theorem TRequest.sz_con (s : TRequest) : s.con.sz = s.sz := by
  simp [TRequest.sz, TRequest.con, szPairS, szPairS, szL_map TPair.sz_con, szL_map TPair.sz_con]
theorem TRequest.sh : ∀ (n : Nat) (row : List AV), ShC Tryd.prog n 48 row → ∃ s : TRequest, row = s.enc ∧ s.ok := by
  intro n row h
  obtain ⟨m, hl, hf⟩ := sh_fields (l := [(9, 0), (46, 1), (46, 2)]) (by kernel_rfl) h
  have hl' : row.length = 3 := hl.trans (by kernel_rfl)
  match row, hl' with
  | [x0, x1, x2], _ =>
    have h0 := hf (9, 0) (by simp)
    rw [show Tryd.prog.cellsOf 9 = 1 by kernel_rfl] at h0
    obtain ⟨v0, rfl, k0⟩ := sh_str (t := 9) (by kernel_rfl) (show ShC Tryd.prog m 9 [x0] from h0)
    have h1 := hf (46, 1) (by simp)
    rw [show Tryd.prog.cellsOf 46 = 1 by kernel_rfl] at h1
    obtain ⟨v1, rfl, k1⟩ := shPairS (show ShC Tryd.prog m 46 [x1] from h1)
    have h2 := hf (46, 2) (by simp)
    rw [show Tryd.prog.cellsOf 46 = 1 by kernel_rfl] at h2
    obtain ⟨v2, rfl, k2⟩ := shPairS (show ShC Tryd.prog m 46 [x2] from h2)
    exact ⟨⟨v0, v1, v2⟩, rfl, ⟨k0, k1, k2⟩⟩
theorem TRequest.sz_fn {s : TRequest} (hs : s.ok) {left : Int} (hl : Room left) : Fnc Tryd.prog 29 [.agg s.enc, .int .i64 left] (.int .i64 (szOf s.sz left)) := by
  unfold TRequest.ok at hs
  have hr := hl.2
  refine fn_of c29 (by simp [F29]) fun c => ?_
  unfold F29
  simp
  rw [szOf_wrap hs.1 hl]
  refine ⟨fun h => fin_plain ⟨by rw [szOf_neg (by simp only [TRequest.sz]; omega)], rfl⟩, fun h => ?_⟩
  refine call_fn0 (szPairS_fn hs.2.1 ⟨by omega, by omega⟩) .int fun _ _ => ?_
  simp
  refine ⟨fun h => fin_plain ⟨by have := szOf_lt h; rw [szOf_neg (by simp only [TRequest.sz]; omega)], rfl⟩, fun h => ?_⟩
  obtain ⟨h1, k1⟩ := szOf_ge h
  rw [h1]
  refine call_fn0 (szPairS_fn hs.2.2 ⟨by omega, by omega⟩) .int fun _ _ => ?_
  simp
  refine ⟨fun h => fin_plain ⟨by have := szOf_lt h; rw [szOf_neg (by simp only [TRequest.sz]; omega)], rfl⟩, fun h => ?_⟩
  obtain ⟨h2, k2⟩ := szOf_ge h
  rw [h2]
  have hz : s.sz = s.Path.length + (szPairS s.Query) + (szPairS s.Cookies) := rfl
  have e : szOf s.sz left = left - (s.Path.length : Int) - ((szPairS s.Query) : Int) - ((szPairS s.Cookies) : Int) := by
    unfold szOf
    rw [if_pos (by omega)]
    omega
  exact fin_plain ⟨by rw [e], rfl⟩
theorem TRequest.to_fn {s : TRequest} (h : s.sz ≤ 1048576) : Tr Tryd.prog 31 [.agg s.enc] fun _ r => ∃ b : TRequest, r = .agg b.enc ∧ b.con = s.con := by
  simp only [TRequest.sz] at h
  intro c
  refine con_of c31 (by simp [F31]) ?_
  unfold F31
  simp [putA]
  refine call_tree0 (toPairS_fn (by omega)) fun r1 c1 hc1 ⟨b1, e1, q1⟩ f1 => ?_
  subst e1
  simp [putA]
  refine call_tree0 (toPairS_fn (by omega)) fun r2 c2 hc2 ⟨b2, e2, q2⟩ f2 => ?_
  subst e2
  simp [putA]
  refine fin_plain ⟨rfl, ⟨⟨s.Path, b1, b2⟩, rfl, ?_⟩, from_agg ?_⟩
  · simp [TRequest.con, SL.con, SL.pcon, q1, q2]
  · simp
    exact ⟨f1.mono (by omega), f2.mono (by omega)⟩
theorem TRequest.eq_fn {a b : TRequest} (h : a.sz ≤ 1099511627776) (he : a.con = b.con) : Fnc Tryd.prog 33 [.agg a.enc, .agg b.enc] (.bool true) := by
  simp only [TRequest.sz] at h
  have e0 : a.Path = b.Path := (congrArg TRequest.Path he : a.con.Path = b.con.Path)
  have e1 : a.Query.list.map TPair.con = b.Query.list.map TPair.con := congrArg (fun s => s.Query.list) he
  have e2 : a.Cookies.list.map TPair.con = b.Cookies.list.map TPair.con := congrArg (fun s => s.Cookies.list) he
  refine fn_of c33 (by simp [F33]) fun c => ?_
  unfold F33
  simp [e0]
  refine call_fn0 (eqPairS_fn (by omega) e1) .bool fun _ _ => ?_
  simp [e0]
  refine call_fn0 (eqPairS_fn (by omega) e2) .bool fun _ _ => ?_
  simp [e0]
  exact fin_plain ⟨rfl, rfl⟩
end A
end Go.Proofs.YtfcimcoanlgldaaDoor

/-
  Pairs read out of a text, by the reference and by the program: the same plain function. No condition.
-/




namespace Go.Proofs.YtfcimcoanlgldaaDoor
namespace A
set_option linter.unusedVariables false
set_option linter.unusedSimpArgs false
set_option maxRecDepth 100000

/-! ### the plain function -/
def okPair (p : TPair) : Bool := decide (p.Name.length ≤ 60) && decide (p.Value.length ≤ 60)
def okP (l : List TPair) : Bool := l.all okPair && decide (l.length ≤ 12)
def pairA (x : List UInt8) : TPair := ⟨(une (x.take (upTo 61 x))).getD [], (une (x.drop (upTo 61 x + 1))).getD []⟩
def pairB (x : List UInt8) : Bool := (une (x.take (upTo 61 x))).isSome && (une (x.drop (upTo 61 x + 1))).isSome
def pairOf (x : List UInt8) : Option TPair := if pairB x then some (pairA x) else none
def pairsOf : List (List UInt8) → Option (List TPair)
  | [] => some []
  | x :: r => (pairOf x).bind fun p => (pairsOf r).map (p :: ·)
def parseP (sep l : List UInt8) : Option (List TPair) := if l = [] then some [] else (pairsOf (Lib.split l sep)).bind fun o => if okP o then some o else none
theorem pairsOf_app : ∀ (a b : List (List UInt8)), pairsOf (a ++ b) = (pairsOf a).bind fun x => (pairsOf b).map (x ++ ·)
  | [], b => by simp [pairsOf]
  | x :: a, b => by
    simp only [List.cons_append, pairsOf, pairsOf_app a b]
    cases pairOf x with
    | none => rfl
    | some p =>
      cases pairsOf a with
      | none => rfl
      | some y => cases pairsOf b <;> simp
theorem pairsOf_len : ∀ {a : List (List UInt8)} {o : List TPair}, pairsOf a = some o → o.length = a.length
  | [], o, h => by simp [pairsOf] at h; subst h; rfl
  | x :: a, o, h => by
    simp only [pairsOf] at h
    cases hp : pairOf x with
    | none => rw [hp] at h; cases h
    | some p =>
      rw [hp] at h
      cases ha : pairsOf a with
      | none => rw [ha] at h; cases h
      | some y => rw [ha] at h; simp at h; subst h; simp [pairsOf_len ha]
theorem okP_sz {l : List TPair} (h : okP l = true) : l.length ≤ 12 ∧ szL TPair.sz l ≤ 120 * l.length := by
  simp only [okP, Bool.and_eq_true, decide_eq_true_eq] at h
  refine ⟨h.2, ?_⟩
  have h1 := h.1
  clear h
  induction l with
  | nil => simp [szL]
  | cons p l ih =>
    simp only [List.all_cons, Bool.and_eq_true, okPair, decide_eq_true_eq] at h1
    have := ih h1.2
    simp [szL, TPair.sz] at this ⊢; omega
theorem parseP_ok {sep l : List UInt8} {o : List TPair} (h : parseP sep l = some o) : okP o = true := by
  unfold parseP at h
  split at h
  · cases h; rfl
  · cases hp : pairsOf (Lib.split l sep) with
    | none => rw [hp] at h; cases h
    | some x =>
      rw [hp] at h
      simp only [Option.bind_some] at h
      split at h
      · cases h; assumption
      · cases h

/-! ### the pairs' bounds -/
theorem TPair.flat' : Flat TPair.enc := fun x a ha => by
  simp [TPair.enc] at ha
  rcases ha with rfl | rfl <;> exact ⟨rfl, free_str _⟩
theorem TPair.free (x : TPair) : ∀ a, a ∈ x.enc → Free a := fun a ha => (TPair.flat' x a ha).2
theorem spec_pairs {s : SL TPair} (hn : s.list.length ≤ mx) : Fnc Tryd.prog 69 [s.av 2 TPair.enc] (.bool (okP s.list)) := by
  refine fn_of c69 (by simp [F69]) fun c => ?_
  unfold F69
  simp
  refine loop_drop s.list.length (fun i e H c' => e 0 = s.av 2 TPair.enc ∧ e 3 = .int .i64 i ∧ (s.list.take i).all okPair = true ∧ H = []) ⟨rfl, rfl, by simp, rfl⟩ ?_
  intro i e H c hi ⟨e0, e3, ha, hH⟩ N hN
  subst hH
  by_cases h : i < s.list.length
  · have hb : s.list[i]? = some s.list[i] := List.getElem?_eq_getElem h
    have bad : okPair s.list[i] = false → okP s.list = false := fun hb => by
      unfold okP
      have : s.list.all okPair = false := by rw [List.all_eq_false]; exact ⟨_, List.getElem_mem h, by simp [hb]⟩
      rw [this]; rfl
    have good : okPair s.list[i] = true → (s.list.take (i + 1)).all okPair = true := fun hx => all_step ha h hx
    have hstep : IntKind.i64.wrap ((i : Int) + 1) = ((i + 1 : Nat) : Int) := by rw [step64 hn h]; rfl
    generalize s.list[i] = p at hb bad good
    by_cases h1 : p.Name.length ≤ 60
    · have k1 : ¬ (60 < (p.Name.length : Int)) := by omega
      by_cases h2 : p.Value.length ≤ 60
      · have k2 : ¬ (60 < (p.Value.length : Int)) := by omega
        simp [e0, e3, h, getW_of hb, k1, k2, hstep]
        exact hN _ _ _ _ h (List.Sublist.refl _) ⟨by simp [upd, e0], by simp [upd], good (by simp [okPair, h1, h2]), rfl⟩
      · have k2 : (60 < (p.Value.length : Int)) := by omega
        simp [e0, e3, h, getW_of hb, k1, k2, hstep]
        exact fin_plain ⟨by rw [bad (by simp [okPair, h2])], rfl⟩
    · have k1 : (60 < (p.Name.length : Int)) := by omega
      simp [e0, e3, h, getW_of hb, k1, hstep]
      exact fin_plain ⟨by rw [bad (by simp [okPair, h1])], rfl⟩
  · have h1 : i = s.list.length := by omega
    subst h1
    rw [List.take_length] at ha
    have k : ((s.list.length : Int) ≤ 12) = (s.list.length ≤ 12) := by simp only [eq_iff_iff]; omega
    simp [e0, e3]
    exact fin_plain ⟨by simp [okP, ha, k], rfl⟩
theorem impl_pairs {s : SL TPair} (hn : s.list.length ≤ mx) : Fnc Tryd.prog 72 [s.av 2 TPair.enc] (.bool (okP s.list)) := by
  refine fn_of c72 (by simp [F72]) fun c => ?_
  unfold F72
  simp
  refine loop_drop s.list.length (fun i e H c' => e 0 = s.av 2 TPair.enc ∧ e 5 = s.av 2 TPair.enc ∧ e 6 = .int .i64 s.list.length ∧ e 7 = .int .i64 i ∧ (s.list.take i).all okPair = true ∧ H = []) ⟨rfl, rfl, rfl, rfl, by simp, rfl⟩ ?_
  intro i e H c hi ⟨e0, e5, e6, e7, ha, hH⟩ N hN
  subst hH
  by_cases h : i < s.list.length
  · have hb : s.list[i]? = some s.list[i] := List.getElem?_eq_getElem h
    have bad : okPair s.list[i] = false → okP s.list = false := fun hb => by
      unfold okP
      have : s.list.all okPair = false := by rw [List.all_eq_false]; exact ⟨_, List.getElem_mem h, by simp [hb]⟩
      rw [this]; rfl
    have good : okPair s.list[i] = true → (s.list.take (i + 1)).all okPair = true := fun hx => all_step ha h hx
    have hstep : IntKind.i64.wrap ((i : Int) + 1) = ((i + 1 : Nat) : Int) := by rw [step64 hn h]; rfl
    generalize s.list[i] = p at hb bad good
    by_cases h1 : p.Name.length ≤ 60
    · have k1 : ¬ (60 < (p.Name.length : Int)) := by omega
      by_cases h2 : p.Value.length ≤ 60
      · have k2 : ¬ (60 < (p.Value.length : Int)) := by omega
        simp [e0, e5, e6, e7, h, getW_of hb, k1, k2, hstep, putA]
        exact hN _ _ _ _ h (List.nil_sublist _) ⟨by simp [upd, e0], by simp [upd, e5], by simp [upd, e6], by simp [upd], good (by simp [okPair, h1, h2]), rfl⟩
      · have k2 : (60 < (p.Value.length : Int)) := by omega
        simp [e0, e5, e6, e7, h, getW_of hb, k1, k2, hstep, putA]
        exact fin_plain ⟨by rw [bad (by simp [okPair, h2])], rfl⟩
    · have k1 : (60 < (p.Name.length : Int)) := by omega
      simp [e0, e5, e6, e7, h, getW_of hb, k1, hstep, putA]
      exact fin_plain ⟨by rw [bad (by simp [okPair, h1])], rfl⟩
  · have h1 : i = s.list.length := by omega
    subst h1
    rw [List.take_length] at ha
    have k : ((s.list.length : Int) ≤ 12) = (s.list.length ≤ 12) := by simp only [eq_iff_iff]; omega
    simp [e0, e5, e6, e7]
    exact fin_plain ⟨by simp [okP, ha, k], rfl⟩

/-! ### one pair -/
theorem free_un (l : List UInt8) : Free (.tup (unO l)) := free_tup fun a ha => by
  simp [unO] at ha
  rcases ha with rfl | rfl
  · exact free_str _
  · exact free_bool _
theorem min_fn (a b : Int) : Fnc Tryd.prog 80 [.int .i64 a, .int .i64 b] (.int .i64 (if b < a then b else a)) := by
  refine fn_of c80 (by simp [F80]) fun c => ?_
  unfold F80
  by_cases h : b < a <;> simp [h] <;> exact fin_plain ⟨rfl, rfl⟩
theorem upTo_drop (b : UInt8) (l : List UInt8) : l.drop (min l.length (upTo b l + 1)) = l.drop (upTo b l + 1) := by
  rcases Nat.le_total l.length (upTo b l + 1) with h | h
  · rw [Nat.min_eq_left h, List.drop_length, List.drop_eq_nil_of_le h]
  · rw [Nat.min_eq_right h]
theorem specPair_fn {l : List UInt8} (hl : l.length ≤ 1048576) : Fnc Tryd.prog 112 [.str l] (.tup [.agg (pairA l).enc, .bool (pairB l)]) := by
  refine fn_of c112 (by simp [F112]) fun c => ?_
  unfold F112
  simp
  refine loop_drop l.length (fun i e H c' => e 0 = .str l ∧ e 2 = .ptr 0 c 2 0 0 ∧ e 4 = .int .i64 i ∧ (∀ j, j < i → l[j]? ≠ some 61) ∧ H = [⟨false, c, 2, [[.str [], .str []]]⟩]) ⟨rfl, rfl, rfl, by simp, rfl⟩ ?_
  intro i e H c' hi ⟨e0, e2, e4, hno, hH⟩ N hN
  subst hH
  by_cases hgo : i < l.length ∧ l[i]? ≠ some 61
  · obtain ⟨h, hx⟩ := hgo
    have hb : l[i]? = some l[i] := List.getElem?_eq_getElem h
    have hstep : IntKind.i64.wrap ((i : Int) + 1) = ((i + 1 : Nat) : Int) := by rw [step64 (by unfold mx; omega) h]; rfl
    generalize l[i] = b at hb
    have hb61 : ¬ (b.toNat : Int) = 61 := fun e => hx (by rw [hb]; congr 1; exact UInt8.toNat_inj.1 (by have : (61 : UInt8).toNat = 61 := rfl; omega))
    simp [e0, e4, h, getW_of hb, hb61, hstep]
    refine hN _ _ _ _ h (List.Sublist.refl _) ⟨by simp [upd, e0], by simp [upd, e2], by simp [upd], fun j hj => ?_, rfl⟩
    rcases Nat.lt_or_ge j i with h1 | h1
    · exact hno j h1
    · have : j = i := by omega
      subst this; exact hx
  have hk : upTo 61 l = i := upTo_eq hi hno (by
    rcases Nat.lt_or_ge i l.length with h | h
    · exact .inr (Classical.byContradiction fun hx => hgo ⟨h, hx⟩)
    · exact .inl (by omega))
  have hmin : (if (i : Int) + 1 < (l.length : Int) then (i : Int) + 1 else (l.length : Int)) = ((min l.length (i + 1) : Nat) : Int) := by
    split <;> omega
  have hw : IntKind.i64.wrap ((i : Int) + 1) = (i : Int) + 1 := wrap64 (by omega) (by omega)
  have hdr : l.drop (min l.length (i + 1)) = l.drop (upTo 61 l + 1) := by rw [← hk]; exact upTo_drop 61 l
  have hA : ((une (l.take i)).getD []) = (pairA l).Name := by rw [← hk]; rfl
  have hB : ((une (l.drop (upTo 61 l + 1))).getD []) = (pairA l).Value := rfl
  have hC : ((une (l.take i)).isSome && (une (l.drop (upTo 61 l + 1))).isSome) = pairB l := by rw [← hk]; rfl
  rcases Nat.lt_or_ge i l.length with h | h
  focus
    have hb : l[i]? = some 61 := Classical.byContradiction fun hx => hgo ⟨h, hx⟩
    simp [e0, e4, h, hi, getW_of hb]
  rotate_left
  focus
    have h' : ¬ i < l.length := by omega
    simp [e0, e4, h', hi]
  rotate_left
  all_goals
    refine call_fn0 (specUne_fn (l := l.take i) (by simp; omega)) (free_un _ _) fun _ _ => ?_
    simp [e0, e4, unO, hw]
    refine call_fn0 (min_fn _ _) .int fun _ _ => ?_
    simp only [hmin]
    simp [e0, e4]
    rw [hdr]
    refine ⟨Nat.min_le_left _ _, ?_⟩
    refine call_fn0 (specUne_fn (by simp; omega)) (free_un _ _) fun _ _ => ?_
    simp [e0, e2, e4, unO, putA]
    cases h1 : (une (l.take i)).isSome
    · simp [e0, e2, e4, putA]
      exact fin_plain ⟨by rw [← hC, h1, hA, hB]; rfl, rfl⟩
    · simp [e0, e2, e4, putA]
      exact fin_plain ⟨by rw [← hC, h1, hA, hB]; simp [TPair.enc], rfl⟩
theorem cut_61 (l : List UInt8) : (Lib.cut l [61]).1 = l.take (upTo 61 l) ∧ (Lib.cut l [61]).2.1 = l.drop (upTo 61 l + 1) := cut_one 61 l

/-! ### all pairs, of the program -/
theorem implParse_con {l sep : List UInt8} (hl : l.length ≤ 1048576) (hs : sep ≠ []) (c : Nat) :
    Con Tryd.prog 51 [.str l, .str sep] [] c fun r O _ => ∃ b : SL TPair, r = .tup [b.ref 2, .bool (parseP sep l).isSome] ∧ O = b.wood 2 TPair.enc noInn ∧ b.list = (parseP sep l).getD [] := by
  refine con_of c51 (by simp [F51]) ?_
  unfold F51
  by_cases h0 : l = []
  · subst h0
    simp
    exact fin_all ⟨.mk c [], by simp [SL.ref, parseP], by simp [flat_wood], by simp [parseP]⟩
  simp [h0]
  refine call_tree0 (split_tr (by omega) hs) fun r _ hc1 ⟨b, e1, q1⟩ _ => ?_
  subst e1
  simp [h0]
  have hpl := split_len l sep
  have hpm := fun x => split_mem (l := l) (sep := sep) (x := x)
  have hpar : parseP sep l = (pairsOf b.list).bind fun o => if okP o then some o else none := by unfold parseP; rw [if_neg h0, q1]
  rw [← q1] at hpl hpm
  refine loop_drop b.list.length (fun i e H c' => e 22 = b.av 1 encS ∧ e 23 = .int .i64 b.list.length ∧ e 24 = .int .i64 i ∧ ∃ (o : List TPair) (t : Nat), pairsOf (b.list.take i) = some o ∧ e 6 = .ref 0 t 2 o.length ∧ H = [⟨false, t, 2, o.map TPair.enc⟩]) ⟨rfl, rfl, rfl, [], c, by simp [pairsOf], rfl, rfl⟩ ?_
  intro i e H c hi ⟨e22, e23, e24, o, t, ho, e6, hH⟩ N hN
  subst hH
  have hol := pairsOf_len ho
  rw [List.length_take] at hol
  have hm1 : (o.length + 1) * 32 ≤ 140737488355328 := by omega
  have hm2 : o.length + 1 ≤ mx := by unfold mx; omega
  by_cases h : i < b.list.length
  · have hx : b.list[i]? = some b.list[i] := List.getElem?_eq_getElem h
    have hall : pairsOf b.list = (pairsOf (b.list.take i)).bind fun x => (pairsOf (b.list[i] :: b.list.drop (i + 1))).map (x ++ ·) := by
      rw [← pairsOf_app, ← List.drop_eq_getElem_cons h, List.take_append_drop]
    have hnext : pairsOf (b.list.take (i + 1)) = (pairsOf (b.list.take i)).bind fun x => (pairsOf [b.list[i]]).map (x ++ ·) := by
      rw [← pairsOf_app, List.take_succ_eq_append_getElem h]
    have hxl := hpm _ (List.getElem_mem h)
    generalize b.list[i] = x at hx hall hnext hxl
    have hstep : IntKind.i64.wrap ((i : Int) + 1) = ((i + 1 : Nat) : Int) := by rw [step64 (by unfold mx; omega) h]; rfl
    obtain ⟨hc1, hc2⟩ := cut_61 x
    rw [ho] at hall hnext
    simp only [Option.bind_some, pairsOf] at hall hnext
    simp [e22, e23, e24, h, getW_of hx]
    refine call_fn0 (cut_fn (by omega)) (free_tup (by simp [free_str, free_bool]) _) fun _ _ => ?_
    simp [e22, e23, e24]
    rw [hc1]
    refine call_fn0 (implUne_fn (by simp; omega)) (free_un _ _) fun _ _ => ?_
    simp [e22, e23, e24, unO]
    rw [hc2]
    refine call_fn0 (implUne_fn (by simp; omega)) (free_un _ _) fun _ _ => ?_
    simp [e22, e23, e24, unO]
    have hpB : pairB x = ((une (x.take (upTo 61 x))).isSome && (une (x.drop (upTo 61 x + 1))).isSome) := rfl
    have hA : ((une (x.take (upTo 61 x))).getD []) = (pairA x).Name := rfl
    have hB : ((une (x.drop (upTo 61 x + 1))).getD []) = (pairA x).Value := rfl
    rw [hA, hB]
    have bad : pairB x = false → parseP sep l = none := fun hb => by
      rw [hpar, hall]; simp [pairOf, hb]
    cases h1 : une (x.take (upTo 61 x)) with
    | none =>
      simp
      have := bad (by rw [hpB, h1]; rfl)
      exact fin_sub (List.nil_sublist _) (.refl _) ⟨.nil, by rw [this]; rfl, rfl, by rw [this]; rfl⟩
    | some u1 =>
    cases h2 : une (x.drop (upTo 61 x + 1)) with
    | none =>
      simp
      have := bad (by rw [hpB, h1, h2]; rfl)
      exact fin_sub (List.nil_sublist _) (.refl _) ⟨.nil, by rw [this]; rfl, rfl, by rw [this]; rfl⟩
    | some u2 =>
    have hgood : pairB x = true := by rw [hpB, h1, h2]; rfl
    simp [e6, e24, hm1, hm2, putA, hstep]
    refine hN _ _ _ _ h (sub_one _ _) ⟨by simp [upd, e22], by simp [upd, e23], by simp [upd], o ++ [pairA x], _, by rw [hnext]; simp [pairOf, hgood], by simp [upd]; rfl, by simp [TPair.enc]⟩
  · have h1 : i = b.list.length := by omega
    subst h1
    rw [List.take_length] at ho
    rw [ho] at hpar
    simp only [Option.bind_some] at hpar
    simp [e6, e22, e23, e24]
    refine call_fn (impl_pairs (s := .mk t o) (by simp; unfold mx; omega)) (.cons (view_ref (by simp) rfl fun x _ => TPair.cells x) .nil) .bool fun _ _ => ?_
    cases hk : okP o
    · simp [hk, e6]
      rw [hk] at hpar
      simp at hpar
      exact fin_sub (List.nil_sublist _) (.refl _) ⟨.nil, by simp [hpar, SL.ref], by simp [SL.wood], by simp [hpar]⟩
    · simp [hk, e6]
      rw [hk] at hpar
      simp at hpar
      exact fin_sub (List.Sublist.refl _) (.refl _) ⟨.mk t o, by simp [hpar, SL.ref], by simp [flat_wood], by simp [hpar]⟩

/-! ### all pairs, of the reference -/
theorem is_fn {l sep : List UInt8} {i : Nat} (hl : l.length ≤ 9223372036854775000) (hs : sep.length ≤ 100) (hi : i ≤ l.length) : Fnc Tryd.prog 78 [.str l, .int .i64 i, .str sep] (.bool (Lib.occAt l sep i)) := by
  refine fn_of c78 (by simp [F78]) fun c => ?_
  unfold F78
  have w1 : IntKind.i64.wrap ((l.length : Int) - (i : Int)) = (l.length : Int) - i := wrap64 (by omega) (by omega)
  have w2 : IntKind.i64.wrap ((i : Int) + (sep.length : Int)) = ((i + sep.length : Nat) : Int) := by rw [wrap64 (by omega) (by omega)]; omega
  by_cases h : i + sep.length ≤ l.length
  · have k : (sep.length : Int) ≤ (l.length : Int) - i := by omega
    have e : Lib.occAt l sep i = decide ((l.take (i + sep.length)).drop i = sep) := by
      rw [Lib.occAt_iff_take _ _ _ h, List.drop_take, Nat.add_sub_cancel_left, dec_beq]
    simp [w1, w2, k, -Int.natCast_add]
    exact ⟨h, fin_plain ⟨by rw [e], rfl⟩⟩
  · have k : ¬ (sep.length : Int) ≤ (l.length : Int) - i := by omega
    have e : Lib.occAt l sep i = false := by
      cases ho : Lib.occAt l sep i
      · rfl
      · rcases Lib.occAt_room ho with h1 | h1
        · exact absurd h1 h
        · subst h1; simp at h; omega
    simp [w1, k]
    exact fin_plain ⟨by rw [e], rfl⟩
theorem specParse_con {l sep : List UInt8} (hl : l.length ≤ 1048576) (hs : sep ≠ []) (hs2 : sep.length ≤ 100) (c : Nat) :
    Con Tryd.prog 50 [.str l, .str sep] [] c fun r O _ => ∃ b : SL TPair, r = .tup [b.ref 2, .bool (parseP sep l).isSome] ∧ O = b.wood 2 TPair.enc noInn ∧ b.list = (parseP sep l).getD [] := by
  refine con_of c50 (by simp [F50]) ?_
  unfold F50
  simp
  by_cases h0 : l = []
  · subst h0
    refine loop_drop 0 (fun i e H c' => e 0 = .str [] ∧ e 6 = .ref 0 c 2 0 ∧ e 8 = .int .i64 0 ∧ H = [⟨false, c, 2, []⟩]) ⟨rfl, rfl, rfl, rfl⟩ ?_
    intro i e H c' hi ⟨e0, e6, e8, hH⟩ N hN
    subst hH
    simp [e0, e6, e8]
    refine call_fn (spec_pairs (s := .mk c []) (by simp)) (.cons (view_ref (by simp) rfl fun x _ => TPair.cells x) .nil) .bool fun _ _ => ?_
    have : okP ([] : List TPair) = true := rfl
    simp [this, e6]
    exact fin_all ⟨.mk c [], by simp [SL.ref, parseP], by simp [flat_wood], by simp [parseP]⟩
  have hlp : 0 < l.length := List.length_pos_iff.2 h0
  have hs1 : 0 < sep.length := List.length_pos_iff.2 hs
  have hpar : parseP sep l = (pairsOf (Lib.split l sep)).bind fun o => if okP o then some o else none := by unfold parseP; rw [if_neg h0]
  refine loop_drop (l.length + 1) (fun i e H c' => e 0 = .str l ∧ e 1 = .str sep ∧ e 8 = .int .i64 i ∧ ∃ (a : Nat) (o : List TPair) (t : Nat), e 7 = .int .i64 a ∧ e 6 = .ref 0 t 2 o.length ∧ H = [⟨false, t, 2, o.map TPair.enc⟩] ∧ o.length ≤ i ∧
      (i ≤ l.length → a ≤ l.length ∧ (∀ j, a ≤ j → j < i → Lib.occAt l sep j = false) ∧ pairsOf (Lib.split l sep) = (pairsOf (Lib.split (l.drop a) sep)).map (o ++ ·)) ∧ (l.length < i → pairsOf (Lib.split l sep) = some o)) ?_ ?_
  · exact ⟨rfl, rfl, rfl, 0, [], c, rfl, rfl, rfl, by simp, fun _ => ⟨by omega, fun j h1 h2 => by omega, by simp⟩, fun h => by omega⟩
  intro i e H c' hi ⟨e0, e1, e8, a, o, t, e7, e6, hH, hoi, hinv, hend⟩ N hN
  subst hH
  have hm1 : (o.length + 1) * 32 ≤ 140737488355328 := by omega
  have hm2 : o.length + 1 ≤ mx := by unfold mx; omega
  by_cases hle : i ≤ l.length
  case neg =>
    have hie : i = l.length + 1 := by omega
    have ho := hend (by omega)
    rw [ho] at hpar
    simp only [Option.bind_some] at hpar
    have hnle : ¬ ((i : Int) ≤ (l.length : Int)) := by omega
    simp [e0, e6, e8, hle]
    refine call_fn (spec_pairs (s := .mk t o) (by simp; unfold mx; omega)) (.cons (view_ref (by simp) rfl fun x _ => TPair.cells x) .nil) .bool fun _ _ => ?_
    cases hk : okP o
    · simp [hk, e6]
      rw [hk] at hpar
      simp at hpar
      exact fin_sub (Hk := [⟨false, _, 2, []⟩]) ((List.Sublist.refl _).cons _) (view_tup (.cons .name (Views.refl _ _))) ⟨.mk _ [], by rw [hpar]; rfl, rfl, by rw [hpar]; rfl⟩
    · simp [hk, e6]
      rw [hk] at hpar
      simp at hpar
      exact fin_sub (List.Sublist.refl _) (.refl _) ⟨.mk t o, by simp [hpar, SL.ref], by simp [flat_wood], by simp [hpar]⟩
  obtain ⟨ha, hno, hsp⟩ := hinv hle
  have hstep : IntKind.i64.wrap ((i : Int) + 1) = ((i + 1 : Nat) : Int) := by rw [wrap64 (by omega) (by omega)]; rfl
  have hadd : IntKind.i64.wrap ((i : Int) + (sep.length : Int)) = ((i + sep.length : Nat) : Int) := by rw [wrap64 (by omega) (by omega)]; omega
  by_cases hA : i < l.length ∧ Lib.occAt l sep i = false
  · obtain ⟨h, ho⟩ := hA
    simp [e0, e1, e8, hle, h0, h]
    refine call_fn0 (is_fn (by omega) hs2 hle) .bool fun _ _ => ?_
    simp [e0, e1, e8, ho, hstep]
    refine hN _ _ _ _ (by omega) (List.Sublist.refl _) ⟨by simp [upd, e0], by simp [upd, e1], by simp [upd], a, o, t, by simp [upd, e7], by simp [upd, e6], rfl, by omega, fun _ => ⟨ha, fun j h1 h2 => ?_, hsp⟩, fun h2 => by omega⟩
    rcases Nat.lt_or_ge j i with h3 | h3
    · exact hno j h1 h3
    · have : j = i := by omega
      subst this; exact ho
  have hocc : i < l.length → Lib.occAt l sep i = true := fun h => by
    cases ho : Lib.occAt l sep i
    · exact absurd ⟨h, ho⟩ hA
    · rfl
  by_cases hB : i < a
  · have h : i < l.length := by omega
    simp [e0, e1, e8, hle, h0, h]
    refine call_fn0 (is_fn (by omega) hs2 hle) .bool fun _ _ => ?_
    simp [e0, e1, e7, e8, hocc h, hstep, hB]
    exact hN _ _ _ _ (by omega) (List.Sublist.refl _) ⟨by simp [upd, e0], by simp [upd, e1], by simp [upd], a, o, t, by simp [upd, e7], by simp [upd, e6], rfl, by omega, fun _ => ⟨ha, fun j h1 h2 => by omega, hsp⟩, fun h2 => by omega⟩
  have hai : a ≤ i := by omega
  obtain ⟨x, hx⟩ : ∃ x, (l.take i).drop a = x := ⟨_, rfl⟩
  obtain ⟨R, hR⟩ : ∃ R, (if i < l.length then Lib.split (l.drop (i + sep.length)) sep else []) = R := ⟨_, rfl⟩
  have hcons : Lib.split (l.drop a) sep = x :: R := by
    rw [← hx, ← hR]
    by_cases h : i < l.length
    · rw [if_pos h]; exact split_at hs hai hle hno (hocc h)
    · have hie : i = l.length := by omega
      subst hie
      rw [if_neg h, List.take_length]; exact split_end hs hno
  rw [hcons] at hsp
  simp only [pairsOf] at hsp
  have hxl : x.length ≤ 1048576 := by rw [← hx]; simp; omega
  have bad : pairB x = false → parseP sep l = none := fun hb => by rw [hpar, hsp]; simp [pairOf, hb]
  have good : pairB x = true → pairsOf (Lib.split l sep) = (pairsOf R).map ((o ++ [pairA x]) ++ ·) := fun hb => by
    rw [hsp]; simp only [pairOf, hb, if_true, Option.bind_some, Option.map_map]
    congr 1; funext y; simp
  have hroom : i < l.length → i + sep.length ≤ l.length := fun h => occ_room hs (hocc h)
  have hsl : ∀ K : AV → Prop, strSliceW (.str l) (some (.int .i64 a)) (some (.int .i64 i)) K = K (.str x) := fun K => by rw [← hx]; simp [hai, hle]
  rcases Nat.lt_or_ge i l.length with h | h
  focus
    simp [e0, e1, e8, hle, h0, h]
    refine call_fn0 (is_fn (by omega) hs2 hle) .bool fun _ _ => ?_
    simp [e0, e1, e7, e8, hocc h, hstep, hB, hsl, -strSliceW_str]
  rotate_left
  focus
    have h' : ¬ i < l.length := by omega
    simp [e0, e1, e7, e8, hle, h0, h', hB, hsl, -strSliceW_str]
  rotate_left
  all_goals
    refine call_fn0 (specPair_fn hxl) (free_tup (by simp [free_bool, free_agg (TPair.free _)]) _) fun _ _ => ?_
    cases hb : pairB x
    · simp [e0, e1, e7, e8, hb, putA]
      have hn := bad hb
      exact fin_sub (Hk := [⟨false, _, 2, []⟩]) (((List.Sublist.refl _).cons _).cons _) (view_tup (.cons .name (Views.refl _ _))) ⟨.mk _ [], by rw [hn]; rfl, rfl, by rw [hn]; rfl⟩
    · have hg := good hb
      simp [e0, e1, e6, e7, e8, hb, putA, hm1, hm2, hadd, hstep]
      refine hN _ _ _ _ (by omega) (sub_one _ _) ⟨by simp [upd, e0], by simp [upd, e1], by simp [upd], i + sep.length, o ++ [pairA x], _, by simp [upd], by simp [upd]; rfl, by simp, by simp; omega, fun h2 => ⟨hroom (by omega), fun j h3 h4 => by omega, ?_⟩, fun h2 => ?_⟩
      · have : i < l.length := by omega
        rw [hg, ← hR, if_pos this]
      · have : ¬ i < l.length := by omega
        rw [hg, ← hR, if_neg this]; simp [pairsOf]
end A
end Go.Proofs.YtfcimcoanlgldaaDoor

/-
  IsRequest of the reference and of the program are the same plain function, and the law answers true. No condition.
-/


namespace Go.Proofs.YtfcimcoanlgldaaDoor
namespace A
set_option linter.unusedVariables false
set_option linter.unusedSimpArgs false
set_option maxRecDepth 100000

def isReq (x : TRequest) : Bool := isN x.Path && okP x.Query.list && okP x.Cookies.list
theorem req_same {a b : TRequest} (h : a.con = b.con) : a.Path = b.Path ∧ a.Query.list = b.Query.list ∧ a.Cookies.list = b.Cookies.list := by
  have e : ∀ l : List TPair, l.map TPair.con = l := fun l => List.map_id' l
  have h1 : (a.con.Query).list = (b.con.Query).list := congrArg (fun z => z.Query.list) h
  have h2 : (a.con.Cookies).list = (b.con.Cookies).list := congrArg (fun z => z.Cookies.list) h
  exact ⟨(congrArg TRequest.Path h : a.con.Path = b.con.Path), by simpa [TRequest.con, e] using h1, by simpa [TRequest.con, e] using h2⟩
theorem isReq_con {a b : TRequest} (h : a.con = b.con) : isReq a = isReq b := by
  obtain ⟨h1, h2, h3⟩ := req_same h
  unfold isReq; rw [h1, h2, h3]
theorem reqOk_con {a b : TRequest} (h : a.con = b.con) (ha : b.ok) : a.ok := by
  obtain ⟨h1, h2, h3⟩ := req_same h
  unfold TRequest.ok okPairS at ha ⊢; rw [h1, h2, h3]; exact ha
theorem spec_isReq {x : TRequest} (hx : x.ok) : Fnc Tryd.prog 30 [.agg x.enc] (.bool (isReq x)) := by
  obtain ⟨h1, h2, h3⟩ := hx
  refine fn_of c30 (by simp [F30]) fun c => ?_
  unfold F30
  simp
  refine call_fn0 (spec_isN h1) .bool fun _ _ => ?_
  cases hN : isN x.Path
  · simp
    exact fin_plain ⟨by simp [isReq, hN], rfl⟩
  simp
  refine call_fn0 (spec_pairs h2.1) .bool fun _ _ => ?_
  cases hQ : okP x.Query.list
  · simp
    exact fin_plain ⟨by simp [isReq, hQ], rfl⟩
  simp
  refine call_fn0 (spec_pairs h3.1) .bool fun _ _ => ?_
  simp
  exact fin_plain ⟨by simp [isReq, hN, hQ], rfl⟩
theorem impl_isReq {x : TRequest} (hx : x.ok) : Fnc Tryd.prog 32 [.agg x.enc] (.bool (isReq x)) := by
  obtain ⟨h1, h2, h3⟩ := hx
  refine fn_of c32 (by simp [F32]) fun c => ?_
  unfold F32
  simp
  refine call_fn0 (impl_isN h1) .bool fun _ _ => ?_
  cases hN : isN x.Path
  · simp
    exact fin_plain ⟨by simp [isReq, hN], rfl⟩
  simp
  refine call_fn0 (impl_pairs h2.1) .bool fun _ _ => ?_
  cases hQ : okP x.Query.list
  · simp
    exact fin_plain ⟨by simp [isReq, hQ], rfl⟩
  simp
  refine call_fn0 (impl_pairs h3.1) .bool fun _ _ => ?_
  simp
  exact fin_plain ⟨by simp [isReq, hN, hQ], rfl⟩
def TRequest.at (c : Nat) (a : TRequest) : TRequest := { a with Query := .mk c a.Query.list, Cookies := .mk c a.Cookies.list }
theorem TRequest.at_con (c : Nat) (a : TRequest) : (a.at c).con = a.con := rfl
theorem pairs_from (c : Nat) (l : List TPair) : From c ((SL.mk c l).av 2 TPair.enc) := by
  refine from_slc (Nat.le_refl _) fun row hr y hy => ?_
  obtain ⟨h, _, rfl⟩ := List.mem_map.1 hr
  exact (TPair.free h y hy).from c
theorem TRequest.at_from (c : Nat) (a : TRequest) : From c (.agg (a.at c).enc) := from_agg fun x hx => by
  simp [TRequest.enc, TRequest.at] at hx
  rcases hx with rfl | rfl | rfl
  · simp
  · exact pairs_from c _
  · exact pairs_from c _
def IsQ (a : TRequest) (v : AV) : Prop := ∃ b : TRequest, v = .agg b.enc ∧ b.con = a.con
theorem IsQ_some (a : TRequest) (c : Nat) : ∃ r, IsQ a r ∧ From c r := ⟨_, ⟨a.at c, rfl, a.at_con c⟩, a.at_from c⟩
theorem law_isReq {a : TRequest} (ha : a.ok) (c : Nat) : Con Tryd.prog 7 [.agg a.enc] [] c fun r H' _ => r = .bool true ∧ H' = [] := by
  refine con_of c7 (by simp [F7]) ?_
  unfold F7
  simp
  refine call_fn0 (TRequest.sz_fn ha ⟨by omega, by omega⟩) .int fun _ _ => ?_
  simp
  refine ⟨fun _ => fin_plain ⟨rfl, rfl⟩, fun h1 => ?_⟩
  obtain ⟨h1', h1''⟩ := szOf_ge h1
  have hz : ∀ x : TRequest, x.con = a.con → x.sz ≤ 1048576 := fun x hx => by rw [← x.sz_con, hx, a.sz_con]; omega
  refine call_tree0 (TRequest.to_fn (hz a rfl)) fun r1 _ _ ⟨a1, e1, q1⟩ _ => ?_
  subst e1
  simp
  refine call_fn0 (spec_isReq (reqOk_con q1 ha)) .bool fun _ _ => ?_
  simp
  refine call_tree0 (TRequest.to_fn (hz a rfl)) fun r2 _ _ ⟨a2, e2, q2⟩ _ => ?_
  subst e2
  simp
  refine call_fn0 (impl_isReq (reqOk_con q2 ha)) .bool fun _ _ => ?_
  rw [isReq_con q1, isReq_con q2]
  simp
  refine ⟨fun d v => if d = 24 then IsQ a v else v = .bool true, ?_⟩
  simp
  refine callD_tree0 (TRequest.to_fn (hz a rfl)) (IsQ_some a _) fun r3 ⟨a3, e3, q3⟩ _ => ?_
  subst e3
  simp
  refine callD_fn0 (TRequest.eq_fn (by have := hz _ q2; omega) (q2.trans q3.symm)) (fun v => Iff.rfl) (by simp) ?_
  simp
  intro c2 _
  exact fin_plain ⟨rfl, rfl⟩
end A
end Go.Proofs.YtfcimcoanlgldaaDoor

/-
  EscapeURL of the reference and of the program. No condition.
-/


namespace Go.Proofs.YtfcimcoanlgldaaDoor
namespace A
set_option linter.unusedVariables false
set_option linter.unusedSimpArgs false
set_option maxRecDepth 100000

def hexL : List UInt8 := [48, 49, 50, 51, 52, 53, 54, 55, 56, 57, 65, 66, 67, 68, 69, 70]
def up (n : Nat) : UInt8 := hexL.getD n 0
theorem up_at {n : Nat} (h : n < 16) : hexL[n]? = some (up n) := by
  have : ∀ n, n < 16 → hexL[n]? = some (up n) := by decide
  exact this n h
def plainB (b : UInt8) : Bool := isA b || isD b || decide (b.toNat = 45) || decide (b.toNat = 95) || decide (b.toNat = 46) || decide (b.toNat = 126)
def escB (b : UInt8) : List UInt8 := if plainB b then [b] else [37, up (b.toNat / 16), up (b.toNat % 16)]
def escL (l : List UInt8) : List UInt8 := l.flatMap escB
theorem escB_len (b : UInt8) : (escB b).length ≤ 3 := by unfold escB; split <;> simp
theorem escL_len (l : List UInt8) : (escL l).length ≤ 3 * l.length := by
  unfold escL
  induction l with
  | nil => simp
  | cons b l ih => have := escB_len b; simp [List.flatMap_cons] at ih ⊢; omega
theorem escL_step (l : List UInt8) {i : Nat} (h : i < l.length) : escL (l.take (i + 1)) = escL (l.take i) ++ escB l[i] := by
  unfold escL; rw [List.take_succ_eq_append_getElem h, List.flatMap_append]; simp

theorem hexUpper_fn {n : Nat} (h : n < 16) : Fnc Tryd.prog 176 [.int .u8 n] (.int .u8 (up n).toNat) := by
  refine fn_of c176 (by simp [F176]) fun c => ?_
  unfold F176
  have hb := up_at h
  unfold hexL at hb
  simp
  refine ⟨_, hb, ?_⟩
  exact fin_plain ⟨rfl, rfl⟩
def andE (a b : Int) : Int := IntKind.i64.wrap ((BitVec.ofInt 64 a &&& BitVec.ofInt 64 b).toNat : Int)
theorem intW_andE (a b : Int) (K : AV → Prop) : intW .and .i64 a b K = K (.int .i64 (andE a b)) := rfl
theorem shr4 (a : Int) (K : AV → Prop) : binW .shr (.int .i64 a) (.int .u64 4) K = K (.int .i64 (a.fdiv 16)) := by
  simp [binW, IntKind.bits]
theorem and15 {n : Nat} (h : n < 256) : andE (n : Int) 15 = ((n % 16 : Nat) : Int) := by
  have : ∀ n : Nat, n < 256 → andE (n : Int) 15 = ((n % 16 : Nat) : Int) := by decide
  exact this n h
theorem l4Hex_fn (b : UInt8) : Fnc Tryd.prog 175 [.int .i64 b.toNat] (.str [up (b.toNat / 16), up (b.toNat % 16)]) := by
  refine fn_of c175 (by simp [F175]) fun c => ?_
  unfold F175
  have hlt : b.toNat < 256 := b.toNat_lt
  have h1 := up_at (n := b.toNat / 16) (by omega)
  have h2 := up_at (n := b.toNat % 16) (by omega)
  unfold hexL at h1 h2
  have q1 : ((b.toNat : Int)).fdiv 16 = ((b.toNat / 16 : Nat) : Int) := by
    rw [Int.fdiv_eq_ediv_of_nonneg _ (by omega)]; omega
  have q2 : ((b.toNat / 16 % 16 : Nat) : Int) = ((b.toNat / 16 : Nat) : Int) := by omega
  have a1 := and15 (n := b.toNat / 16) (by omega)
  have a2 := and15 hlt
  rw [q2] at a1
  simp [shr4, q1, -Int.natCast_ediv, -Int.natCast_emod, intW_andE, a1, a2]
  refine ⟨_, h1, _, h2, ?_⟩
  simp [putA, -Int.natCast_ediv, -Int.natCast_emod]
  refine toStrW_ref (l := [up (b.toNat / 16), up (b.toNat % 16)]) rfl rfl (by unfold mx; simp) ?_
  simp
  exact fin_sub (List.nil_sublist _) (.refl _) ⟨rfl, rfl⟩
theorem l4Plain_fn (b : UInt8) : Fnc Tryd.prog 174 [.int .u8 b.toNat] (.bool (plainB b)) := by
  refine fn_of c174 (by simp [F174]) fun c => ?_
  unfold F174
  simp [wrap_b]
  refine call_fn0 (l1In_fn _ _ _) .bool fun _ _ => ?_
  cases h1 : inR b.toNat 97 122 <;> simp
  · refine call_fn0 (l1In_fn _ _ _) .bool fun _ _ => ?_
    cases h2 : inR b.toNat 65 90 <;> simp
    · refine call_fn0 (l1In_fn _ _ _) .bool fun _ _ => ?_
      cases h3 : inR b.toNat 48 57 <;> simp
      · by_cases h4 : (b.toNat : Int) = 45
        · simp [h4]; exact fin_plain ⟨by simp [plainB]; omega, rfl⟩
        by_cases h5 : (b.toNat : Int) = 95
        · simp [h4, h5]; exact fin_plain ⟨by simp [plainB]; omega, rfl⟩
        by_cases h6 : (b.toNat : Int) = 46
        · simp [h4, h5, h6]; exact fin_plain ⟨by simp [plainB]; omega, rfl⟩
        by_cases h7 : (b.toNat : Int) = 126
        · simp [h4, h5, h6, h7]; exact fin_plain ⟨by simp [plainB]; omega, rfl⟩
        · simp [h4, h5, h6, h7]; exact fin_plain ⟨by simp [plainB, isA, isD, h1, h2, h3]; omega, rfl⟩
      · exact fin_plain ⟨by simp [plainB, isD, isA, h1, h2, h3], rfl⟩
    · exact fin_plain ⟨by simp [plainB, isA, h1, h2], rfl⟩
  · exact fin_plain ⟨by simp [plainB, isA, h1], rfl⟩
theorem take1 {l : List UInt8} {i : Nat} {b : UInt8} (h : l[i]? = some b) : List.drop i (List.take (i + 1) l) = [b] := by
  obtain ⟨hi, rfl⟩ := List.getElem?_eq_some_iff.1 h
  rw [List.take_succ_eq_append_getElem hi, List.drop_append_of_le_length (by simp; omega)]
  simp
theorem specEsc_fn {l : List UInt8} (hl : l.length ≤ 1048576) : Fnc Tryd.prog 152 [.str l] (.str (escL l)) := by
  refine fn_of c152 (by simp [F152]) fun c => ?_
  unfold F152
  simp
  refine loop_drop l.length (fun i e H c' => e 0 = .str l ∧ e 3 = .str (escL (l.take i)) ∧ e 4 = .int .i64 i ∧ H = []) ⟨rfl, by simp [escL], rfl, rfl⟩ ?_
  intro i e H c hi ⟨e0, e3, e4, hH⟩ N hN
  subst hH
  simp [e0, e3, e4]
  refine ⟨fun h => ?_, fun h => ?_⟩
  · have hb : l[i]? = some l[i] := List.getElem?_eq_getElem h
    have hst := escL_step l h
    have hle := escL_len (l.take i)
    simp at hle
    have hw : IntKind.i64.wrap ((i : Int) + 1) = ((i + 1 : Nat) : Int) := by rw [step64 (by unfold mx; omega) h]; rfl
    generalize l[i] = b at hb hst
    have ht := take1 hb
    refine ⟨_, hb, ?_⟩
    simp [e0, e3, e4]
    refine call_fn0 (l4Plain_fn b) .bool fun _ _ => ?_
    cases h1 : plainB b
    · simp [e0, e3, e4]
      refine ⟨by unfold mx; omega, _, hb, ?_⟩
      simp only [wrap_b, Lz_app]
      refine call_fn0 (l4Hex_fn b) .str fun _ _ => ?_
      simp [e0, e3, e4]
      refine ⟨by unfold mx; omega, hN _ _ _ _ h (List.Sublist.refl _) ⟨by simp [upd, e0], ?_, by simp [upd, hw], rfl⟩⟩
      simp [upd, hst, escB, h1]
    · simp [e0, e3, e4, hw, ht]
      refine ⟨by omega, by omega, by unfold mx; omega, hN _ _ _ _ h (List.Sublist.refl _) ⟨by simp [upd, e0], ?_, by simp [upd], rfl⟩⟩
      simp [upd, hst, escB, h1]
  · have : i = l.length := by omega
    subst this
    exact fin_plain ⟨by simp, rfl⟩
theorem implEsc_fn {l : List UInt8} (hl : l.length ≤ 1048576) : Fnc Tryd.prog 153 [.str l] (.str (escL l)) := by
  refine fn_of c153 (by simp [F153]) fun c => ?_
  unfold F153
  simp
  refine loop_drop l.length (fun i e H c' => e 0 = .str l ∧ e 4 = .int .i64 i ∧ ∃ t, e 3 = .ref 0 t 1 (escL (l.take i)).length ∧ H = [⟨false, t, 1, (escL (l.take i)).map byteRow⟩]) ⟨rfl, rfl, _, by simp [escL]; rfl, by simp [escL]⟩ ?_
  intro i e H c hi ⟨e0, e4, t, e3, hH⟩ N hN
  subst hH
  simp [e0, e3, e4]
  refine ⟨fun h => ?_, fun h => ?_⟩
  · have hb : l[i]? = some l[i] := List.getElem?_eq_getElem h
    have hst := escL_step l h
    have hle := escL_len (l.take i)
    simp at hle
    have hw : IntKind.i64.wrap ((i : Int) + 1) = ((i + 1 : Nat) : Int) := by rw [step64 (by unfold mx; omega) h]; rfl
    generalize l[i] = b at hb hst
    have hm1 : (escL (l.take i)).length + 1 ≤ 140737488355328 := by omega
    have hm2 : (escL (l.take i)).length + 1 ≤ mx := by unfold mx; omega
    have hm3 : (escL (l.take i)).length + 3 ≤ 140737488355328 := by omega
    have hm4 : (escL (l.take i)).length + 3 ≤ mx := by unfold mx; omega
    refine ⟨_, hb, ?_⟩
    simp [e0, e3, e4]
    refine call_fn0 (isLetter_fn b) .bool fun _ _ => ?_
    cases h1 : isA b
    case true =>
      simp [e0, e3, e4, hm1, hm2, hw]
      refine hN _ _ _ _ h (sub_one _ _) ⟨by simp [upd, e0], by simp [upd], _, by simp [upd, hst, escB, plainB, h1]; rfl, by simp [hst, escB, plainB, h1, byteRow]⟩
    simp [e0, e3, e4]
    refine call_fn0 (isDigit_fn b) .bool fun _ _ => ?_
    cases h2 : isD b
    case true =>
      simp [e0, e3, e4, hm1, hm2, hw]
      refine hN _ _ _ _ h (sub_one _ _) ⟨by simp [upd, e0], by simp [upd], _, by simp [upd, hst, escB, plainB, h1, h2]; rfl, by simp [hst, escB, plainB, h1, h2, byteRow]⟩
    by_cases h4 : b.toNat = 45
    · simp [e0, e3, e4, hm1, hm2, hw, h4]
      refine hN _ _ _ _ h (sub_one _ _) ⟨by simp [upd, e0], by simp [upd], _, by simp [upd, hst, escB, plainB, h1, h2, h4]; rfl, by simp [hst, escB, plainB, h1, h2, h4, byteRow]⟩
    by_cases h5 : b.toNat = 95
    · simp [e0, e3, e4, hm1, hm2, hw, h4, h5]
      refine hN _ _ _ _ h (sub_one _ _) ⟨by simp [upd, e0], by simp [upd], _, by simp [upd, hst, escB, plainB, h1, h2, h4, h5]; rfl, by simp [hst, escB, plainB, h1, h2, h4, h5, byteRow]⟩
    by_cases h6 : b.toNat = 46
    · simp [e0, e3, e4, hm1, hm2, hw, h4, h5, h6]
      refine hN _ _ _ _ h (sub_one _ _) ⟨by simp [upd, e0], by simp [upd], _, by simp [upd, hst, escB, plainB, h1, h2, h4, h5, h6]; rfl, by simp [hst, escB, plainB, h1, h2, h4, h5, h6, byteRow]⟩
    by_cases h7 : b.toNat = 126
    · simp [e0, e3, e4, hm1, hm2, hw, h4, h5, h6, h7]
      refine hN _ _ _ _ h (sub_one _ _) ⟨by simp [upd, e0], by simp [upd], _, by simp [upd, hst, escB, plainB, h1, h2, h4, h5, h6, h7]; rfl, by simp [hst, escB, plainB, h1, h2, h4, h5, h6, h7, byteRow]⟩
    have hp : plainB b = false := by simp [plainB, h1, h2, h4, h5, h6, h7]
    have k4 : ¬ (b.toNat : Int) = 45 := by omega
    have k5 : ¬ (b.toNat : Int) = 95 := by omega
    have k6 : ¬ (b.toNat : Int) = 46 := by omega
    have k7 : ¬ (b.toNat : Int) = 126 := by omega
    have hlt := b.toNat_lt
    have q1 : ((b.toNat : Int)).tdiv 16 = ((b.toNat / 16 : Nat) : Int) := by rw [Int.tdiv_eq_ediv_of_nonneg (by omega)]; omega
    have q2 : ((b.toNat : Int)).tmod 16 = ((b.toNat % 16 : Nat) : Int) := by rw [Int.tmod_eq_emod_of_nonneg (by omega)]; omega
    have q3 : IntKind.u8.wrap ((b.toNat / 16 : Nat) : Int) = ((b.toNat / 16 : Nat) : Int) := by rw [IntKind.wrap_u8]; omega
    simp [e0, e3, e4, k4, k5, k6, k7, q1, q3, -Int.natCast_ediv, -Int.natCast_emod]
    refine call_fn0 (hexUpper_fn (by omega)) .int fun _ _ => ?_
    simp [e0, e3, e4, q2, -Int.natCast_ediv, -Int.natCast_emod]
    refine call_fn0 (hexUpper_fn (by omega)) .int fun _ _ => ?_
    simp [e0, e3, e4, hm3, hm4, hw, -Int.natCast_ediv, -Int.natCast_emod]
    refine hN _ _ _ _ h (sub_one _ _) ⟨by simp [upd, e0], by simp [upd], _, by simp [upd, hst, escB, hp]; rfl, by simp [hst, escB, hp, byteRow]⟩
  · have : i = l.length := by omega
    subst this
    have hle := escL_len l
    simp
    refine toStrW_ref (l := escL l) rfl rfl (by unfold mx; omega) ?_
    simp
    exact fin_sub (List.nil_sublist _) (.refl _) ⟨rfl, rfl⟩
end A
end Go.Proofs.YtfcimcoanlgldaaDoor

/-
  Pairs written as0 text, by the reference and by the program; the laws of FormatQuery and FormatCookies answer true. No condition.
-/



namespace Go.Proofs.YtfcimcoanlgldaaDoor
namespace A
set_option linter.unusedVariables false
set_option linter.unusedSimpArgs false
set_option maxRecDepth 100000

def pairT (p : TPair) : List UInt8 := escL p.Name ++ 61 :: escL p.Value
def fmtP (sep : List UInt8) (l : List TPair) : List UInt8 := joinL sep (l.map pairT)
theorem pairT_len (p : TPair) : (pairT p).length ≤ 3 * p.sz + 1 := by
  have h1 := escL_len p.Name
  have h2 := escL_len p.Value
  simp [pairT, TPair.sz]; omega
theorem fmtP_len {sep : List UInt8} (hs : sep.length ≤ 2) (l : List TPair) : (fmtP sep l).length ≤ 3 * (l.length + szL TPair.sz l) := by
  refine Nat.le_trans (joinL_len hs _) ?_
  induction l with
  | nil => simp [szL]
  | cons p l ih => have := pairT_len p; simp [szL] at ih ⊢; omega
theorem fmtP_step (sep : List UInt8) (l : List TPair) {i : Nat} (h : i < l.length) : fmtP sep (l.take (i + 1)) = (if 0 < i then fmtP sep (l.take i) ++ sep else []) ++ pairT l[i] := by
  unfold fmtP
  rw [List.take_succ_eq_append_getElem h, List.map_append, List.map_singleton, joinL_snoc]
  simp only [List.length_map, List.length_take, Nat.min_eq_left (Nat.le_of_lt h)]

theorem spec_fmt {s : SL TPair} {sep : List UInt8} (hs : sep.length ≤ 2) (hz : s.list.length + szL TPair.sz s.list ≤ 1048576) : Fnc Tryd.prog 125 [s.av 2 TPair.enc, .str sep] (.str (fmtP sep s.list)) := by
  refine fn_of c125 (by simp [F125]) fun c => ?_
  unfold F125
  simp
  refine loop_drop s.list.length (fun i e H c' => e 0 = s.av 2 TPair.enc ∧ e 1 = .str sep ∧ e 5 = .str (fmtP sep (s.list.take i)) ∧ e 6 = .int .i64 i ∧ H = []) ⟨rfl, rfl, rfl, rfl, rfl⟩ ?_
  intro i e H c hi ⟨e0, e1, e5, e6, hH⟩ N hN
  subst hH
  simp [e0, e1, e5, e6]
  refine ⟨fun h => ?_, fun h => ?_⟩
  · have hl : s.list[i]? = some s.list[i] := List.getElem?_eq_getElem h
    have hst := fmtP_step sep s.list h
    have hlen := fmtP_len hs (s.list.take (i + 1))
    have hsz := szL_le TPair.sz s.list (i + 1)
    rw [hst] at hlen
    simp only [List.length_append, List.length_take] at hlen
    have hw : IntKind.i64.wrap ((i : Int) + 1) = ((i + 1 : Nat) : Int) := by rw [step64 (by unfold mx; omega) h]; rfl
    have hx := szL_mem (sz := TPair.sz) (List.getElem_mem h)
    generalize s.list[i] = x at hl hst hlen hx
    have hx1 : x.Name.length ≤ 1048576 := by simp only [TPair.sz] at hx; omega
    have hx2 : x.Value.length ≤ 1048576 := by simp only [TPair.sz] at hx; omega
    simp only [pairT, List.length_append, List.length_cons] at hlen
    refine ⟨fun h0 => ?_, fun h0 => ?_⟩
    · rw [if_pos h0] at hlen hst
      simp only [List.length_append] at hlen
      refine ⟨by unfold mx; omega, x, hl, ?_⟩
      simp [e0, e1, e6]
      refine callF_fn0 (specEsc_fn hx1) .str fun _ _ => ?_
      simp [e0, e1, e6]
      refine ⟨by unfold mx; omega, by unfold mx; omega, x, hl, ?_⟩
      simp [e0, e1, e6]
      refine callF_fn0 (specEsc_fn hx2) .str fun _ _ => ?_
      simp [e0, e1, e6]
      refine ⟨by unfold mx; omega, hN _ _ _ _ h (List.Sublist.refl _) ⟨by simp [upd, e0], by simp [upd, e1], ?_, by simp [upd, hw], rfl⟩⟩
      simp [upd, hst, pairT]
    · rw [if_neg (by omega)] at hlen hst
      subst h0
      have hf0 : fmtP sep [] = [] := rfl
      refine ⟨x, hl, ?_⟩
      simp [e0, e1, e6]
      refine callF_fn0 (specEsc_fn hx1) .str fun _ _ => ?_
      simp [e0, e1, e6, hf0]
      refine ⟨by unfold mx; omega, by unfold mx; omega, x, hl, ?_⟩
      simp [e0, e1, e6]
      refine callF_fn0 (specEsc_fn hx2) .str fun _ _ => ?_
      simp [e0, e1, e6]
      refine ⟨by unfold mx; omega, hN _ _ _ _ h (List.Sublist.refl _) ⟨by simp [upd, e0], by simp [upd, e1], ?_, by simp [upd]; exact wrap64 (by omega) (by omega), rfl⟩⟩
      simp [upd, hst, pairT]
  · have : i = s.list.length := by omega
    subst this
    simp
    exact fin_plain ⟨rfl, rfl⟩
theorem impl_fmt {s : SL TPair} {sep : List UInt8} (hs : sep.length ≤ 2) (hz : s.list.length + szL TPair.sz s.list ≤ 1048576) : Fnc Tryd.prog 126 [s.av 2 TPair.enc, .str sep] (.str (fmtP sep s.list)) := by
  refine fn_of c126 (by simp [F126]) fun c => ?_
  unfold F126
  simp
  refine loop_drop s.list.length (fun i e H c' => e 1 = .str sep ∧ e 9 = s.av 2 TPair.enc ∧ e 10 = .int .i64 s.list.length ∧ e 11 = .int .i64 i ∧ ∃ t, e 5 = .ref 0 t 1 i ∧ H = [⟨false, t, 1, ((s.list.take i).map pairT).map encS⟩]) ⟨rfl, rfl, rfl, rfl, c, rfl, rfl⟩ ?_
  intro i e H c hi ⟨e1, e9, e10, e11, t, e5, hH⟩ N hN
  subst hH
  simp [e1, e5, e9, e10, e11]
  refine ⟨fun h => ?_, fun h => ?_⟩
  · have hl : s.list[i]? = some s.list[i] := List.getElem?_eq_getElem h
    have hw : IntKind.i64.wrap ((i : Int) + 1) = ((i + 1 : Nat) : Int) := by rw [step64 (by unfold mx; omega) h]; rfl
    have hx := szL_mem (sz := TPair.sz) (List.getElem_mem h)
    have htk : ((s.list.take (i + 1)).map pairT).map encS = List.take i (List.map (encS ∘ pairT) s.list) ++ [encS (pairT s.list[i])] := by rw [List.take_succ_eq_append_getElem h, List.map_append, List.map_append]; simp
    generalize s.list[i] = x at hl hx htk
    have hx1 : x.Name.length ≤ 1048576 := by simp only [TPair.sz] at hx; omega
    have hx2 : x.Value.length ≤ 1048576 := by simp only [TPair.sz] at hx; omega
    have hp1 := escL_len x.Name
    have hp2 := escL_len x.Value
    have hm0 : (escL x.Name).length + 1 ≤ mx := by unfold mx; omega
    have hm3 : (escL x.Name).length + (1 + (escL x.Value).length) ≤ mx := by unfold mx; omega
    have hm4 : (escL x.Name).length + 1 + (escL x.Value).length ≤ mx := by unfold mx; omega
    have hm5 : (escL x.Name).length + ((escL x.Value).length + 1) ≤ mx := by unfold mx; omega
    have hm1 : (i + 1) * 16 ≤ 140737488355328 := by omega
    have hm2 : i + 1 ≤ mx := by unfold mx; omega
    refine ⟨x, hl, ?_⟩
    simp [e1, e5, e9, e10, e11, putA]
    refine callF_fn0 (implEsc_fn hx1) .str fun _ _ => ?_
    simp [e1, e5, e9, e10, e11, hm0]
    refine callF_fn0 (implEsc_fn hx2) .str fun _ _ => ?_
    simp [e1, e5, e9, e10, e11, hm1, hm2, hm3, hm4, hm5, hw]
    refine ⟨by simp; omega, hN _ _ _ _ h (sub_one _ _) ⟨by simp [upd, e1], by simp [upd, e9], by simp [upd, e10], by simp [upd], _, by simp [upd]; rfl, ?_⟩⟩
    rw [htk]; simp [encS, pairT, List.take_take]
  · have : i = s.list.length := by omega
    subst this
    have hl := fmtP_len hs s.list
    unfold fmtP at hl
    rw [List.take_of_length_le (by simp), ← List.map_map]
    refine call_fn (join_fn (t := t) (l := s.list.map pairT) (by omega) (by simp; omega)) (.cons (view_ref (enc := encS) (l := s.list.map pairT) (by simp) (by simp) (by simp [encS])) (.cons (.refl _) .nil)) .str fun _ _ => ?_
    simp
    exact fin_sub (List.nil_sublist _) (.refl _) ⟨rfl, rfl⟩

theorem spec_fmtQ {s : SL TPair} (hz : s.list.length + szL TPair.sz s.list ≤ 1048576) : Fnc Tryd.prog 73 [s.av 2 TPair.enc] (.str (fmtP [38] s.list)) := by
  refine fn_of c73 (by simp [F73]) fun c => ?_
  unfold F73
  simp
  refine call_fn0 (spec_fmt (by simp) hz) .str fun _ _ => ?_
  simp
  exact fin_plain ⟨rfl, rfl⟩
theorem impl_fmtQ {s : SL TPair} (hz : s.list.length + szL TPair.sz s.list ≤ 1048576) : Fnc Tryd.prog 75 [s.av 2 TPair.enc] (.str (fmtP [38] s.list)) := by
  refine fn_of c75 (by simp [F75]) fun c => ?_
  unfold F75
  simp
  refine call_fn0 (impl_fmt (by simp) hz) .str fun _ _ => ?_
  simp
  exact fin_plain ⟨rfl, rfl⟩
theorem spec_fmtC {s : SL TPair} (hz : s.list.length + szL TPair.sz s.list ≤ 1048576) : Fnc Tryd.prog 74 [s.av 2 TPair.enc] (.str (fmtP [59, 32] s.list)) := by
  refine fn_of c74 (by simp [F74]) fun c => ?_
  unfold F74
  simp
  refine call_fn0 (spec_fmt (by simp) hz) .str fun _ _ => ?_
  simp
  exact fin_plain ⟨rfl, rfl⟩
theorem impl_fmtC {s : SL TPair} (hz : s.list.length + szL TPair.sz s.list ≤ 1048576) : Fnc Tryd.prog 76 [s.av 2 TPair.enc] (.str (fmtP [59, 32] s.list)) := by
  refine fn_of c76 (by simp [F76]) fun c => ?_
  unfold F76
  simp
  refine call_fn0 (impl_fmt (by simp) hz) .str fun _ _ => ?_
  simp
  exact fin_plain ⟨rfl, rfl⟩
end A
end Go.Proofs.YtfcimcoanlgldaaDoor

/-
  FormatRequest of the reference and of the program are the same plain function, and the law answers true. No condition.
-/


namespace Go.Proofs.YtfcimcoanlgldaaDoor
namespace A
set_option linter.unusedVariables false
set_option linter.unusedSimpArgs false
set_option maxRecDepth 100000

def fqA (x : TRequest) : List UInt8 := [71, 69, 84, 32, 47] ++ x.Path
def fqB (x : TRequest) : List UInt8 := if x.Query.list = [] then [] else 63 :: fmtP [38] x.Query.list
def fqC : List UInt8 := [32, 72, 84, 84, 80, 47, 49, 46, 49, 13, 10]
def fqD (x : TRequest) : List UInt8 := if x.Cookies.list = [] then [] else [67, 111, 111, 107, 105, 101, 58, 32] ++ (fmtP [59, 32] x.Cookies.list ++ [13, 10])
def fmtQ (x : TRequest) : List UInt8 := fqA x ++ (fqB x ++ (fqC ++ (fqD x ++ [13, 10])))
theorem fmtQ_con {a b : TRequest} (h : a.con = b.con) : fmtQ a = fmtQ b := by
  obtain ⟨h1, h2, h3⟩ := req_same h
  unfold fmtQ fqA fqB fqD; rw [h1, h2, h3]
theorem spec_fmtReq {x : TRequest} (hx : x.ok) (hz : x.sz ≤ 1048576) : Fnc Tryd.prog 34 [.agg x.enc] (.str (if isReq x then fmtQ x else [])) := by
  have hzz : x.Path.length + szPairS x.Query + szPairS x.Cookies ≤ 1048576 := hz
  unfold szPairS at hzz
  refine fn_of c34 (by simp [F34]) fun c => ?_
  unfold F34
  simp
  refine call_fn0 (spec_isReq hx) .bool fun _ _ => ?_
  cases hi : isReq x
  · simp
    exact fin_plain ⟨rfl, rfl⟩
  have l1 := fmtP_len (sep := [38]) (by simp) x.Query.list
  have l2 := fmtP_len (sep := [59, 32]) (by simp) x.Cookies.list
  have hA : fqA x = [71, 69, 84, 32, 47] ++ x.Path := rfl
  simp
  refine ⟨by unfold mx; omega, ?_⟩
  by_cases hq : ¬ x.Query.list = []
  focus
    have hB : fqB x = 63 :: fmtP [38] x.Query.list := by unfold fqB; rw [if_neg hq]
    have hq' : 0 < x.Query.list.length := List.length_pos_iff.2 hq
    simp [hq, hq']
    refine ⟨by unfold mx; omega, ?_⟩
    refine call_fn0 (spec_fmtQ (by omega)) .str fun _ _ => ?_
    simp
    refine ⟨by unfold mx; omega, by unfold mx; omega, ?_⟩
  rotate_left
  focus
    have hB : fqB x = [] := by unfold fqB; rw [if_pos (Classical.not_not.1 hq)]
    have hq0 : x.Query.list = [] := Classical.not_not.1 hq
    simp [hq0]
    refine ⟨by unfold mx; omega, ?_⟩
  rotate_left
  all_goals
    by_cases hc : ¬ x.Cookies.list = []
    · have hD : fqD x = [67, 111, 111, 107, 105, 101, 58, 32] ++ (fmtP [59, 32] x.Cookies.list ++ [13, 10]) := by unfold fqD; rw [if_neg hc]
      have hc' : 0 < x.Cookies.list.length := List.length_pos_iff.2 hc
      simp [hc, hc']
      refine ⟨by unfold mx; omega, ?_⟩
      refine call_fn0 (spec_fmtC (by omega)) .str fun _ _ => ?_
      simp
      refine ⟨by unfold mx; omega, by unfold mx; omega, by unfold mx; omega, ?_⟩
      exact fin_plain ⟨by simp [fmtQ, hA, hB, hD, fqC], rfl⟩
    · have hD : fqD x = [] := by unfold fqD; rw [if_pos (Classical.not_not.1 hc)]
      have hc0 : x.Cookies.list = [] := Classical.not_not.1 hc
      simp [hc0]
      refine ⟨by unfold mx; omega, ?_⟩
      exact fin_plain ⟨by simp [fmtQ, hA, hB, hD, fqC], rfl⟩
theorem impl_fmtReq {x : TRequest} (hx : x.ok) (hz : x.sz ≤ 1048576) : Fnc Tryd.prog 35 [.agg x.enc] (.str (if isReq x then fmtQ x else [])) := by
  have hzz : x.Path.length + szPairS x.Query + szPairS x.Cookies ≤ 1048576 := hz
  unfold szPairS at hzz
  refine fn_of c35 (by simp [F35]) fun c => ?_
  unfold F35
  simp
  refine call_fn0 (impl_isReq hx) .bool fun _ _ => ?_
  cases hi : isReq x
  · simp
    exact fin_plain ⟨rfl, rfl⟩
  have l1 := fmtP_len (sep := [38]) (by simp) x.Query.list
  have l2 := fmtP_len (sep := [59, 32]) (by simp) x.Cookies.list
  have hA : fqA x = [71, 69, 84, 32, 47] ++ x.Path := rfl
  simp
  refine ⟨by unfold mx; omega, ?_⟩
  by_cases hq : ¬ x.Query.list = []
  focus
    have hB : fqB x = 63 :: fmtP [38] x.Query.list := by unfold fqB; rw [if_neg hq]
    have hq' : 0 < x.Query.list.length := List.length_pos_iff.2 hq
    simp [hq, hq']
    refine ⟨by unfold mx; omega, ?_⟩
    refine call_fn0 (impl_fmtQ (by omega)) .str fun _ _ => ?_
    simp
    refine ⟨by unfold mx; omega, by unfold mx; omega, ?_⟩
  rotate_left
  focus
    have hB : fqB x = [] := by unfold fqB; rw [if_pos (Classical.not_not.1 hq)]
    have hq0 : x.Query.list = [] := Classical.not_not.1 hq
    simp [hq0]
    refine ⟨by unfold mx; omega, ?_⟩
  rotate_left
  all_goals
    by_cases hc : ¬ x.Cookies.list = []
    · have hD : fqD x = [67, 111, 111, 107, 105, 101, 58, 32] ++ (fmtP [59, 32] x.Cookies.list ++ [13, 10]) := by unfold fqD; rw [if_neg hc]
      have hc' : 0 < x.Cookies.list.length := List.length_pos_iff.2 hc
      simp [hc, hc']
      refine ⟨by unfold mx; omega, ?_⟩
      refine call_fn0 (impl_fmtC (by omega)) .str fun _ _ => ?_
      simp
      refine ⟨by unfold mx; omega, by unfold mx; omega, by unfold mx; omega, ?_⟩
      exact fin_plain ⟨by simp [fmtQ, hA, hB, hD, fqC], rfl⟩
    · have hD : fqD x = [] := by unfold fqD; rw [if_pos (Classical.not_not.1 hc)]
      have hc0 : x.Cookies.list = [] := Classical.not_not.1 hc
      simp [hc0]
      refine ⟨by unfold mx; omega, ?_⟩
      exact fin_plain ⟨by simp [fmtQ, hA, hB, hD, fqC], rfl⟩
theorem law_fmtReq {a : TRequest} (ha : a.ok) (c : Nat) : Con Tryd.prog 8 [.agg a.enc] [] c fun r H' _ => r = .bool true ∧ H' = [] := by
  refine con_of c8 (by simp [F8]) ?_
  unfold F8
  simp
  refine call_fn0 (TRequest.sz_fn ha ⟨by omega, by omega⟩) .int fun _ _ => ?_
  simp
  refine ⟨fun _ => fin_plain ⟨rfl, rfl⟩, fun h1 => ?_⟩
  obtain ⟨h1', h1''⟩ := szOf_ge h1
  have hz : ∀ x : TRequest, x.con = a.con → x.sz ≤ 1048576 := fun x hx => by rw [← x.sz_con, hx, a.sz_con]; omega
  refine call_tree0 (TRequest.to_fn (hz a rfl)) fun r1 _ _ ⟨a1, e1, q1⟩ _ => ?_
  subst e1
  simp
  refine call_fn0 (spec_fmtReq (reqOk_con q1 ha) (hz _ q1)) .str fun _ _ => ?_
  simp
  refine call_tree0 (TRequest.to_fn (hz a rfl)) fun r2 _ _ ⟨a2, e2, q2⟩ _ => ?_
  subst e2
  simp
  refine call_fn0 (impl_fmtReq (reqOk_con q2 ha) (hz _ q2)) .str fun _ _ => ?_
  rw [isReq_con q1, isReq_con q2, fmtQ_con q1, fmtQ_con q2]
  simp
  refine ⟨fun d v => if d = 24 then IsQ a v else v = .bool true, ?_⟩
  simp
  refine callD_tree0 (TRequest.to_fn (hz a rfl)) (IsQ_some a _) fun r3 ⟨a3, e3, q3⟩ _ => ?_
  subst e3
  simp
  refine callD_fn0 (TRequest.eq_fn (by have := hz _ q2; omega) (q2.trans q3.symm)) (fun v => Iff.rfl) (by simp) ?_
  simp
  intro c2 _
  exact fin_plain ⟨rfl, rfl⟩
end A
end Go.Proofs.YtfcimcoanlgldaaDoor

/-
  The wrap of a row that lists package variables, the world's shape kept. No condition.
-/


namespace Go.Proofs.YtfcimcoanlgldaaDoor
namespace A
open Go.RowKit
set_option linter.unusedVariables false
section
variable {H : Type} {enc : TypeId × Value → H}
theorem returns_shaped {a : Assume} {C : Checked} {os : Os} {f : FuncId} {fn : Func} {s : ChangeSpec} {conds : List PathCond} {apart fresh handsOn again : Bool} {X : World → Array Value → Prop}
    (hX : ∀ (w w' : World) (args : Array Value), w.heap = w'.heap → X w args → X w' args)
    (own : ownKnob C.prog.godebug = none) (started : os.Started) (noInit : C.prog.inits.idxOf? f = none) (hfn : C.prog.funcs[f]? = some fn)
    (witness : ∃ (w : World) (tape : Tape) (i : Input), w.os = os ∧ (w.forCall tape i).Shaped C.prog ∧ i.vars = [] ∧ Input.okWide C.prog (w.forCall tape i) .any w.heap.size f i ∧
      ((s.pre enc C.prog fn conds apart (w.forCall tape i).memory i.args ∧ X (w.forCall tape i).memory i.args) ∧ sizedMet enc C.prog fn (OpenSpec.ofChange s) apart (w.forCall tape i).memory i.args) ∧ a.holds C.prog (lone (Frame.enter C.prog f i.args .normal) [] (w.forCall tape i)))
    (contract : ∀ (W : World) (base : Nat) (args : Array Value) (ds gs : List (DataW H)) (before : List MemPlace),
      (∀ (j : Nat) t v, fn.params[j]? = some t → args[j]? = some v → Value.okWide C.prog W .any base t v) →
      DataW.Whole enc C.prog fn.params.toList s.vars apart W args.toList ds gs before →
      conds.all (PathCond.test C.prog ⟨fn.params.toList, ds, s.plain.varTypes C.prog, gs⟩) = true → X W args → W.ShapedOpen C.prog →
      Calls C.prog f args W fun e W' => ∃ v, e = .returned v ∧ s.post enc C.prog fn apart fresh handsOn again W args v W') :
    ReturnsInHanded a C os f .any (fun w args => (s.pre enc C.prog fn conds apart w args ∧ X w args) ∧ sizedMet enc C.prog fn (OpenSpec.ofChange s) apart w args) (s.post enc C.prog fn apart fresh handsOn again) := by
  refine returnsInHanded_of_calls own started noInit witness ?_
  intro w tape i _ hsh _ hok hpre _
  obtain ⟨_, _, _, fn', hfn', _, _, _, _, hval⟩ := hok
  have e : fn' = fn := Option.some.inj (hfn'.symm.trans hfn)
  subst e
  obtain ⟨⟨⟨ds, gs, before, hw, hc⟩, hx⟩, _⟩ := hpre
  refine (contract (w.forCall tape i) w.heap.size i.args ds gs before hval (DataW.Whole.of_heap (w' := w.forCall tape i) (by rfl) hw) hc (hX _ _ _ (by rfl) hx) hsh).mono fun e W' ⟨v, he, hp⟩ => ?_
  subst he
  exact ChangeSpec.post_blind hp
end
theorem cell_block {w : World} {m : Int} (hm : w.cell? ⟨0, 0, none⟩ = some (.int .i64 m)) : 0 < w.heap.size ∧ ∃ c t fr, w.heap[0]? = some (.cells c t fr) ∧ c[0]? = some (Value.int .i64 m) := by
  rw [cell?_eq] at hm
  unfold hcell at hm
  split at hm
  · rename_i c t fr hc
    exact ⟨(Array.getElem?_eq_some_iff.1 hc).1, c, t, fr, hc, hm⟩
  · cases hm
end A
end Go.Proofs.YtfcimcoanlgldaaDoor

/-
  Facts of the whole program that every row of the seat asks, each worked out once. No condition.
-/


namespace Go.Proofs.YtfcimcoanlgldaaDoor.Closed
open Go.ChangeShapes Go.WideShapes Go.RowKit
theorem heard : Tryd.pinned.checked.prog.stopsHeard = true := by kernel_rfl
theorem enter : Tryd.pinned.checked.prog.mayEnter = true := by kernel_rfl
theorem make : Tryd.pinned.checked.prog.make = some Rows.fnExactFormatResponseRow.make := by kernel_rfl
theorem lifts : Tryd.pinned.checked.prog.liftsFinal = Rows.fnExactFormatResponseRow.lifted := by kernel_rfl
end Go.Proofs.YtfcimcoanlgldaaDoor.Closed

/-
  FnExactFormatRequest: the program's and the reference's give the same, for all arguments. No condition.
-/














namespace Go.Proofs.YtfcimcoanlgldaaDoor.fnExactFormatRequest
open Go.ChangeShapes Go.WideShapes Go.ChangeAt Go.RowKit
open Go.Proofs.YtfcimcoanlgldaaDoor.A
set_option linter.unusedVariables false

theorem own : ownKnob Tryd.prog.godebug = none := by kernel_rfl

def types : List TypeId := [48, 9, 46, 139, 4]

set_option maxRecDepth 100000 in
theorem lifted (os : Os) (started : os.Started) (H : Type) (enc : TypeId × Value → H) :
    ReturnsInHanded {} Tryd.checked os 8 .any (fun w args => (Rows.fnExactFormatRequestSpec.pre enc Tryd.prog Tryd.f8 Rows.fnExactFormatRequestRow.domain false w args ∧ laidMetH Tryd.prog Rows.fnExactFormatRequestRow.laid w) ∧ sizedMet enc Tryd.prog Tryd.f8 (OpenSpec.ofChange Rows.fnExactFormatRequestSpec) false w args) (Rows.fnExactFormatRequestSpec.post enc Tryd.prog Tryd.f8 false true false false) := by
  refine A.returns_shaped (C := Tryd.checked) (X := fun w _ => laidMetH Tryd.prog Rows.fnExactFormatRequestRow.laid w) (fun _ _ _ hh h => h.of_heap hh) own started (by kernel_rfl) Tryd.func8
    (ChangeSpec.witness_shaped (enc := enc) (C := Tryd.checked) (os := os) (X := fun w _ => laidMetH Tryd.prog Rows.fnExactFormatRequestRow.laid w) false (World.laidAll Tryd.prog os Rows.fnExactFormatRequestRow.laid) #[.agg #[.string ⟨#[]⟩, .slice none 0 0, .slice none 0 0]] 8 (World.laidAll_os _ _ _)
      (World.shaped_of_ZipB (by kernel_rfl) (by kernel_rfl)) (by kernel_rfl) (by kernel_rfl) (by kernel_rfl)
      (by rw [MakeChecks.laidMetH_plain _ _ _ (by kernel_rfl)]; exact laidMet_laidAll _ (by kernel_rfl) (by kernel_rfl))) ?_
  intro W base args ds gs before hval0 hW hcnd hL hsh
  obtain ⟨m, hm⟩ := Tryd.laysM146.s1_3 W hsh
  have hg : ∀ b, b < NB → b < W.heap.size ∧ GL b W.heap[b]? := by
    obtain ⟨h0, c, t, fr, hc, hcm⟩ := cell_block hm
    intro b hb
    have hb0 : b = 0 := Nat.lt_one_iff.1 hb
    subst hb0
    exact ⟨h0, c, t, fr, m, hc, hcm⟩
  have hval : ∀ (j : Nat) t v, Tryd.f8.params[j]? = some t → args[j]? = some v → Value.okWide Tryd.prog W .any base t v := hval0
  refine law_post (rs := types) (bt := 4) (by kernel_rfl) (by kernel_rfl) (fun t ht => ?_) Tryd.underlying4 (by kernel_rfl) rfl (fun ds hds => ?_) hW hval (fun l has => ?_) hg
  · rw [Tryd.params8] at ht
    simp at ht
    first
      | (subst ht; exact ⟨by simp [types], by kernel_rfl, of_decide_eq_true (by kernel_rfl)⟩)
      | (rcases ht with rfl | rfl <;> exact ⟨by simp [types], by kernel_rfl, of_decide_eq_true (by kernel_rfl)⟩)
      | (rcases ht with rfl | rfl | rfl <;> exact ⟨by simp [types], by kernel_rfl, of_decide_eq_true (by kernel_rfl)⟩)
      | (rcases ht with rfl | rfl | rfl | rfl <;> exact ⟨by simp [types], by kernel_rfl, of_decide_eq_true (by kernel_rfl)⟩)
      | (rcases ht with rfl | rfl | rfl | rfl | rfl <;> exact ⟨by simp [types], by kernel_rfl, of_decide_eq_true (by kernel_rfl)⟩)
      | (rcases ht with rfl | rfl | rfl | rfl | rfl | rfl <;> exact ⟨by simp [types], by kernel_rfl, of_decide_eq_true (by kernel_rfl)⟩)
  · rw [← Array.length_toList, Tryd.params8] at hds
    match ds, hds with
    | [d0], _ => exact ⟨rfl, rfl, rfl⟩
  · rw [Tryd.params8] at has
    cases has with
    | cons h0 has =>
      cases has
      obtain ⟨n0, h0⟩ := h0
      rw [if_pos (by decide)] at h0
      obtain ⟨as0, rfl, h0⟩ := h0
      obtain ⟨s0, rfl, k0⟩ := TRequest.sh _ _ h0
      exact A.law_fmtReq k0 _

set_option maxHeartbeats 4000000 in
theorem facts : joinedFacts Tryd.pinned.checked.prog 8 Tryd.f8 Rows.fnExactFormatRequestSpec Rows.fnExactFormatRequestRow = true := by
  unfold joinedFacts
  rw [Closed.heard, Closed.enter, Closed.lifts, Closed.make]
  simp only [Bool.and_eq_true]
  iterate 6 (refine ⟨?_, by as_aux_lemma => kernel_rfl⟩)
  refine ⟨⟨?_, trivial⟩, trivial⟩
  iterate 23 (refine ⟨?_, by as_aux_lemma => kernel_rfl⟩)
  kernel_rfl
theorem named : Tryd.pinned.checked.prog.funcNamed Rows.fnExactFormatRequestRow.func = some 8 := by kernel_rfl
theorem inst : Tryd.f8.isInstance Tryd.pinned.checked.prog Rows.fnExactFormatRequestRow.origin Rows.fnExactFormatRequestRow.targs := of_decide_eq_true (by kernel_rfl)
theorem wrap : Tryd.f8.isWrapper Tryd.pinned.checked.prog Rows.fnExactFormatRequestRow.wrapper Rows.fnExactFormatRequestRow.mainSum := by
  unfold Func.isWrapper
  first
    | (rw [if_pos (by decide +kernel)]; kernel_rfl)
    | (rw [if_neg (by decide +kernel)]; exact ⟨rfl, rfl⟩)

theorem over : Rows.fnExactFormatRequestRow.holds Tryd.pinned (OpenSpec.ofChange Rows.fnExactFormatRequestSpec) :=
  OpenClaim.holds_of_wide 8 Tryd.f8 rfl rfl rfl rfl rfl rfl rfl ⟨rfl, rfl, rfl, rfl, rfl⟩ rfl rfl rfl rfl rfl named Tryd.func8 facts inst wrap
    (fun os started H enc _ => lifted os started H enc)

theorem row : Rows.FnExactFormatRequestSaid := over
/-- THE STATEMENT -/
theorem proved : Rows.FnExactFormatRequestCardSaid :=
  Claim7.holds_tied_plain_at .later [] [.data, .pinned] true Rows.fnExactFormatRequestCard.stood.harness true row (fun _ h => by cases h) (by kernel_rfl) (fun _ h => by cases h) fnExactFormatRequest_row_tie rfl ⟨rfl, rfl⟩ (by kernel_rfl) rfl
    (fun f fn hf hfn => by
      obtain rfl : f = 8 := Option.some.inj (named.symm.trans hf) |>.symm
      obtain rfl : fn = Tryd.f8 := (Option.some.inj (Tryd.func8.symm.trans hfn)).symm
      exact ⟨by kernel_rfl, fun j t ht => by
        rw [Tryd.params8] at ht
        have hm : t ∈ [48] := by simpa using Array.mem_of_getElem? ht
        have hall : ([48].all fun u => !Tryd.prog.wantsStandIn u) = true := by kernel_rfl
        exact (show Tryd.prog.wantsStandIn t = false by simpa using List.all_eq_true.1 hall t hm)⟩)
    (by kernel_rfl)
#print axioms proved
end Go.Proofs.YtfcimcoanlgldaaDoor.fnExactFormatRequest
