/-
  IsResponse of the reference and of the program are the same plain function, and the law answers true. No condition.
-/
import Derived.Test.YtgiiipbpadgcgaaTResp
import Derived.Test.YtgiiipbpadgcgaaName
namespace Go.Proofs.Ytgiiipbpadgcgaa
namespace A
set_option linter.unusedVariables false
set_option linter.unusedSimpArgs false
set_option maxRecDepth 100000

def reason (c : Int) : List UInt8 :=
  if c = 200 then [79, 75] else if c = 400 then [66, 97, 100, 32, 82, 101, 113, 117, 101, 115, 116] else if c = 404 then [78, 111, 116, 32, 70, 111, 117, 110, 100]
  else if c = 500 then [69, 114, 114, 111, 114] else if c = 503 then [66, 117, 115, 121] else []
theorem spec_reason (c : Int) : Fnc Try.prog 109 [.int .i64 c] (.str (reason c)) := by
  refine fn_of c109 (by simp [F109]) fun _ => ?_
  unfold F109 reason
  by_cases h1 : c = 200
  · simp [h1]; exact fin_plain ⟨rfl, rfl⟩
  by_cases h2 : c = 400
  · simp [h2]; exact fin_plain ⟨rfl, rfl⟩
  by_cases h3 : c = 404
  · simp [h3]; exact fin_plain ⟨rfl, rfl⟩
  by_cases h4 : c = 500
  · simp [h4]; exact fin_plain ⟨rfl, rfl⟩
  by_cases h5 : c = 503
  · simp [h5]; exact fin_plain ⟨rfl, rfl⟩
  simp [h1, h2, h3, h4, h5]; exact fin_plain ⟨rfl, rfl⟩
theorem impl_reason (c : Int) : Fnc Try.prog 112 [.int .i64 c] (.str (reason c)) := by
  refine fn_of c112 (by simp [F112]) fun _ => ?_
  unfold F112 reason
  by_cases h1 : c = 200
  · simp [h1]; exact fin_plain ⟨rfl, rfl⟩
  by_cases h2 : c = 400
  · simp [h2]; exact fin_plain ⟨rfl, rfl⟩
  by_cases h3 : c = 404
  · simp [h3]; exact fin_plain ⟨rfl, rfl⟩
  by_cases h4 : c = 500
  · simp [h4]; exact fin_plain ⟨rfl, rfl⟩
  by_cases h5 : c = 503
  · simp [h5]; exact fin_plain ⟨rfl, rfl⟩
  simp [h1, h2, h3, h4, h5]; exact fin_plain ⟨rfl, rfl⟩

/-! ### a header's name, a header's value -/
def hChar (b : UInt8) : Bool := isA b || isD b || decide (b.toNat = 45)
def hName (l : List UInt8) : Bool := l.all hChar && inR l.length 1 20
theorem bad_all {α : Type} {p : α → Bool} {l : List α} {i : Nat} (h : i < l.length) (hb : p l[i] = false) : l.all p = false := by
  rw [List.all_eq_false]; exact ⟨_, List.getElem_mem h, by simp [hb]⟩
theorem isD_not {b : UInt8} (h : b.toNat = 95) : isD b = false := by simp [isD, inR, h]
theorem isA_not {b : UInt8} (h : b.toNat = 95) : isA b = false := by simp [isA, inR, h]
theorem spec_hName {l : List UInt8} (hl : l.length ≤ mx) : Fnc Try.prog 142 [.str l] (.bool (hName l)) := by
  refine fn_of c142 (by simp [F142]) fun c => ?_
  unfold F142
  simp
  refine loop_drop l.length (fun i e H c' => e 0 = .str l ∧ e 3 = .int .i64 i ∧ (l.take i).all hChar = true ∧ H = []) ⟨rfl, rfl, by simp, rfl⟩ ?_
  intro i e H c hi ⟨e0, e3, ha, hH⟩ N hN
  subst hH
  simp [e0, e3]
  refine ⟨fun h => ?_, fun h => ?_⟩
  · have hb : l[i]? = some l[i] := List.getElem?_eq_getElem h
    have bad : hChar l[i] = false → hName l = false := fun hb => by unfold hName; rw [bad_all h hb]; rfl
    have good : hChar l[i] = true → (l.take (i + 1)).all hChar = true := fun hx => all_step ha h hx
    generalize l[i] = b at hb bad good
    refine ⟨_, hb, ?_⟩
    simp [e0, e3]
    refine call_fn0 (letter_fn b) .bool fun _ _ => ?_
    have hLA := isL_A b
    by_cases h95 : b.toNat = 95
    · have h95' : (b.toNat : Int) = 95 := by omega
      have hL : isL b = true := by rw [hLA]; simp [h95]
      simp [e0, e3, hL]
      refine ⟨_, hb, ?_⟩
      simp [e0, e3, h95']
      exact fin_plain ⟨by rw [bad (by simp [hChar, isA_not h95, isD_not h95, h95])], rfl⟩
    have h95' : ¬ (b.toNat : Int) = 95 := by omega
    cases hL : isL b
    · have hA : isA b = false := by rw [hL] at hLA; simp at hLA; exact hLA.1
      simp [e0, e3, hL]
      refine ⟨_, hb, ?_⟩
      simp [e0, e3]
      refine call_fn0 (digit_fn b) .bool fun _ _ => ?_
      cases hD : isD b
      · simp [e0, e3]
        refine ⟨_, hb, ?_⟩
        by_cases h45 : (b.toNat : Int) = 45
        · have h45' : b.toNat = 45 := by omega
          simp [e0, e3, h45]
          refine ⟨_, hb, ?_⟩
          simp [e0, e3, h45]
          exact hN _ _ _ _ h (List.Sublist.refl _) ⟨by simp [upd, e0], by simp [upd]; exact step64 hl h, good (by simp [hChar, h45']), rfl⟩
        · have h45' : ¬ b.toNat = 45 := by omega
          simp [e0, e3, h45]
          exact fin_plain ⟨by rw [bad (by simp [hChar, hA, hD, h45'])], rfl⟩
      · simp [e0, e3]
        refine ⟨_, hb, ?_⟩
        simp [e0, e3, h95']
        exact hN _ _ _ _ h (List.Sublist.refl _) ⟨by simp [upd, e0], by simp [upd]; exact step64 hl h, good (by simp [hChar, hD]), rfl⟩
    · have hA : isA b = true := by rw [hL] at hLA; simp [h95] at hLA; exact hLA
      simp [e0, e3]
      refine ⟨_, hb, ?_⟩
      simp [e0, e3, h95']
      exact hN _ _ _ _ h (List.Sublist.refl _) ⟨by simp [upd, e0], by simp [upd]; exact step64 hl h, good (by simp [hChar, hA]), rfl⟩
  · have h1 : i = l.length := by omega
    subst h1
    rw [List.take_length] at ha
    refine call_fn0 (l1In_fn _ _ _) .bool fun _ _ => ?_
    simp
    exact fin_plain ⟨by simp [hName, ha], rfl⟩
theorem impl_hName {l : List UInt8} (hl : l.length ≤ mx) : Fnc Try.prog 146 [.str l] (.bool (hName l)) := by
  refine fn_of c146 (by simp [F146]) fun c => ?_
  unfold F146
  simp
  refine loop_drop l.length (fun i e H c' => e 0 = .str l ∧ e 3 = .int .i64 i ∧ (l.take i).all hChar = true ∧ H = []) ⟨rfl, rfl, by simp, rfl⟩ ?_
  intro i e H c hi ⟨e0, e3, ha, hH⟩ N hN
  subst hH
  simp [e0, e3]
  refine ⟨fun h => ?_, fun h => ?_⟩
  · have hb : l[i]? = some l[i] := List.getElem?_eq_getElem h
    have bad : hChar l[i] = false → hName l = false := fun hb => by unfold hName; rw [bad_all h hb]; rfl
    have good : hChar l[i] = true → (l.take (i + 1)).all hChar = true := fun hx => all_step ha h hx
    generalize l[i] = b at hb bad good
    refine ⟨_, hb, ?_⟩
    simp [e0, e3]
    refine call_fn0 (isLetter_fn b) .bool fun _ _ => ?_
    cases hA : isA b
    · simp [e0, e3]
      refine ⟨_, hb, ?_⟩
      simp [e0, e3]
      refine call_fn0 (isDigit_fn b) .bool fun _ _ => ?_
      cases hD : isD b
      · simp [e0, e3]
        refine ⟨_, hb, ?_⟩
        by_cases h45 : (b.toNat : Int) = 45
        · have h45' : b.toNat = 45 := by omega
          simp [e0, e3, h45]
          exact hN _ _ _ _ h (List.Sublist.refl _) ⟨by simp [upd, e0], by simp [upd]; exact step64 hl h, good (by simp [hChar, h45']), rfl⟩
        · have h45' : ¬ b.toNat = 45 := by omega
          simp [e0, e3, h45]
          exact fin_plain ⟨by rw [bad (by simp [hChar, hA, hD, h45'])], rfl⟩
      · simp [e0, e3]
        exact hN _ _ _ _ h (List.Sublist.refl _) ⟨by simp [upd, e0], by simp [upd]; exact step64 hl h, good (by simp [hChar, hD]), rfl⟩
    · simp [e0, e3]
      exact hN _ _ _ _ h (List.Sublist.refl _) ⟨by simp [upd, e0], by simp [upd]; exact step64 hl h, good (by simp [hChar, hA]), rfl⟩
  · have h1 : i = l.length := by omega
    subst h1
    rw [List.take_length] at ha
    refine call_fn0 (inRange_fn _ _ _) .bool fun _ _ => ?_
    simp
    exact fin_plain ⟨by simp [hName, ha], rfl⟩
def vChar (b : UInt8) : Bool := inR b.toNat 32 126
def hVal (l : List UInt8) : Bool := l.all vChar && decide (l.length ≤ 60)
theorem spec_hVal {l : List UInt8} (hl : l.length ≤ mx) : Fnc Try.prog 143 [.str l] (.bool (hVal l)) := by
  refine fn_of c143 (by simp [F143]) fun c => ?_
  unfold F143
  simp
  refine loop_drop l.length (fun i e H c' => e 0 = .str l ∧ e 3 = .int .i64 i ∧ (l.take i).all vChar = true ∧ H = []) ⟨rfl, rfl, by simp, rfl⟩ ?_
  intro i e H c hi ⟨e0, e3, ha, hH⟩ N hN
  subst hH
  simp [e0, e3]
  refine ⟨fun h => ?_, fun h => ?_⟩
  · have hb : l[i]? = some l[i] := List.getElem?_eq_getElem h
    have bad : vChar l[i] = false → hVal l = false := fun hb => by unfold hVal; rw [bad_all h hb]; rfl
    have good : vChar l[i] = true → (l.take (i + 1)).all vChar = true := fun hx => all_step ha h hx
    generalize l[i] = b at hb bad good
    refine ⟨_, hb, ?_⟩
    simp [e0, e3, wrap_b]
    refine call_fn0 (l1In_fn _ _ _) .bool fun _ _ => ?_
    cases hv : inR b.toNat 32 126
    · simp [e0, e3]
      exact fin_plain ⟨by rw [bad hv], rfl⟩
    · simp [e0, e3]
      exact hN _ _ _ _ h (List.Sublist.refl _) ⟨by simp [upd, e0], by simp [upd]; exact step64 hl h, good hv, rfl⟩
  · have h1 : i = l.length := by omega
    subst h1
    rw [List.take_length] at ha
    refine fin_plain ⟨?_, rfl⟩
    simp [hVal, ha]; omega
theorem impl_hVal {l : List UInt8} (hl : l.length ≤ mx) : Fnc Try.prog 147 [.str l] (.bool (hVal l)) := by
  refine fn_of c147 (by simp [F147]) fun c => ?_
  unfold F147
  simp
  refine loop_drop l.length (fun i e H c' => e 0 = .str l ∧ e 3 = .int .i64 i ∧ (l.take i).all vChar = true ∧ H = []) ⟨rfl, rfl, by simp, rfl⟩ ?_
  intro i e H c hi ⟨e0, e3, ha, hH⟩ N hN
  subst hH
  simp [e0, e3]
  refine ⟨fun h => ?_, fun h => ?_⟩
  · have hb : l[i]? = some l[i] := List.getElem?_eq_getElem h
    have bad : vChar l[i] = false → hVal l = false := fun hb => by unfold hVal; rw [bad_all h hb]; rfl
    have good : vChar l[i] = true → (l.take (i + 1)).all vChar = true := fun hx => all_step ha h hx
    generalize l[i] = b at hb bad good
    refine ⟨_, hb, ?_⟩
    by_cases h1 : (b.toNat : Int) < 32
    · simp [e0, e3, h1]
      exact fin_plain ⟨by rw [bad (by simp [vChar, inR]; intros; omega)], rfl⟩
    simp [e0, e3, h1]
    refine ⟨_, hb, ?_⟩
    simp [e0, e3, h1]
    refine ⟨fun h2 => ?_, fun h2 => ?_⟩
    · exact fin_plain ⟨by rw [bad (by simp [vChar, inR]; intros; omega)], rfl⟩
    · exact hN _ _ _ _ h (List.Sublist.refl _) ⟨by simp [upd, e0], by simp [upd]; exact step64 hl h, good (by simp [vChar, inR]; omega), rfl⟩
  · have h1 : i = l.length := by omega
    subst h1
    rw [List.take_length] at ha
    refine fin_plain ⟨?_, rfl⟩
    simp [hVal, ha]; omega

/-! ### the headers -/
def hdOk (x : THeader) : Bool := hName x.Name && hVal x.Value
def onceB : List (List UInt8) → Bool
  | [] => true
  | x :: l => !l.contains x && onceB l
def hTo (l : List THeader) (i : Nat) : Bool := (l.take i).all hdOk && onceB ((l.take i).map (·.Name)).reverse
def hdrs (l : List THeader) : Bool := hTo l l.length
theorem hTo_step {l : List THeader} {i : Nat} (h : i < l.length) : hTo l (i + 1) = (hTo l i && hdOk l[i] && !((l.take i).map (·.Name)).contains l[i].Name) := by
  unfold hTo
  rw [List.take_succ_eq_append_getElem h, List.all_append, List.map_append, List.reverse_append]
  simp only [List.map_cons, List.map_nil, List.reverse_cons, List.reverse_nil, List.nil_append, List.singleton_append, onceB, List.all_cons, List.all_nil, Bool.and_true]
  have : ((l.take i).map (·.Name)).reverse.contains l[i].Name = ((l.take i).map (·.Name)).contains l[i].Name := by rw [Bool.eq_iff_iff]; simp
  rw [this]
  cases (l.take i).all hdOk <;> cases hdOk l[i] <;> cases onceB ((l.take i).map (·.Name)).reverse <;> simp
theorem hTo_mono {l : List THeader} {i : Nat} (hi : i ≤ l.length) (h : hTo l i = false) : hdrs l = false := by
  have key : ∀ j, i ≤ j → j ≤ l.length → hTo l j = false := by
    intro j hj
    induction hj with
    | refl => exact fun _ => h
    | step hj ih => intro hl; rw [hTo_step (by omega), ih (by omega)]; simp
  exact key l.length hi (Nat.le_refl _)
def outOk (body : List UInt8) (l : List THeader) : Bool := decide (body.length ≤ 3000) && decide (l.length ≤ 8) && hdrs l

def outArg (b : List UInt8) (s : SL THeader) : List AV := [.str b, s.av 2 THeader.enc, .nsl]
theorem spec_total {b : List UInt8} {s : SL THeader} : Fnc Try.prog 141 [.agg (outArg b s)] (.int .i64 b.length) := by
  refine fn_of c141 (by simp [F141]) fun c => ?_
  unfold F141 outArg
  simp
  refine loop_drop 0 (fun i e H c' => e 1 = .ptr 0 c 3 0 0 ∧ e 3 = .int .i64 b.length ∧ e 4 = .int .i64 0 ∧ H = [⟨false, c, 3, [[.str b, s.av 2 THeader.enc, .nsl]]⟩]) ⟨rfl, rfl, rfl, rfl⟩ ?_
  intro i e H c' hi ⟨e1, e3, e4, hH⟩ N hN
  subst hH
  simp [e1, e3, e4]
  exact fin_plain ⟨rfl, rfl⟩
theorem impl_total {b : List UInt8} {s : SL THeader} : Fnc Try.prog 145 [.agg (outArg b s)] (.int .i64 b.length) := by
  refine fn_of c145 (by simp [F145]) fun c => ?_
  unfold F145 outArg
  simp
  refine loop_drop 0 (fun i e H c' => e 3 = .int .i64 b.length ∧ e 11 = .int .i64 0 ∧ e 12 = .int .i64 0 ∧ H = [⟨false, c, 3, [[.str b, s.av 2 THeader.enc, .nsl]]⟩]) ⟨rfl, rfl, rfl, rfl⟩ ?_
  intro i e H c' hi ⟨e3, e11, e12, hH⟩ N hN
  subst hH
  simp [e3, e11, e12]
  exact fin_plain ⟨rfl, rfl⟩
theorem contains_step {l : List THeader} {j : Nat} {x : List UInt8} (h : j < l.length) (hc : ((l.take j).map (·.Name)).contains x = false) (hn : l[j].Name ≠ x) : ((l.take (j + 1)).map (·.Name)).contains x = false := by
  rw [List.take_succ_eq_append_getElem h, List.map_append, List.contains_eq_any_beq] at *
  simp at hc ⊢
  exact ⟨hc, fun e => hn e.symm⟩
theorem contains_hit {l : List THeader} {i j : Nat} {x : List UInt8} (hj : j < i) (h : i ≤ l.length) (hn : l[j].Name = x) : ((l.take i).map (·.Name)).contains x = true := by
  rw [List.contains_iff_mem]
  exact List.mem_map.2 ⟨l[j], List.mem_iff_getElem.2 ⟨j, by simp; omega, by simp⟩, hn⟩

theorem spec_out {b : List UInt8} {s : SL THeader} (hb : b.length ≤ mx) (hs : okHeaderS s) : Fnc Try.prog 110 [.agg (outArg b s)] (.bool (outOk b s.list)) := by
  have hn := hs.1
  refine fn_of c110 (by simp [F110]) fun c => ?_
  unfold F110 outArg
  simp
  refine call_fn0 spec_total .int fun cc _ => ?_
  by_cases h1 : (3000 : Int) < b.length
  · simp [h1]
    exact fin_plain ⟨by simp [outOk]; intros; omega, rfl⟩
  by_cases h2 : (8 : Int) < s.list.length
  · simp [h1, h2]
    exact fin_plain ⟨by simp [outOk]; intros; omega, rfl⟩
  simp [h1, h2]
  have hsum : outOk b s.list = hdrs s.list := by
    have e1 : b.length ≤ 3000 := by omega
    have e2 : s.list.length ≤ 8 := by omega
    simp [outOk, e1, e2]
  rw [hsum]
  refine loop_drop s.list.length (fun i e H c' => e 1 = .ptr 0 c 3 0 0 ∧ e 3 = .int .i64 i ∧ hTo s.list i = true ∧ H = [⟨false, c, 3, [[.str b, s.av 2 THeader.enc, .nsl]]⟩]) ⟨rfl, rfl, rfl, rfl⟩ ?_
  intro i e H c' hi ⟨e1, e3, ht, hH⟩ N hN
  subst hH
  simp [e1, e3]
  refine ⟨fun h => ?_, fun h => ?_⟩
  · have hst := hTo_step h
    have hg : s.list[i]? = some s.list[i] := List.getElem?_eq_getElem h
    have hok := hs.2 _ (List.getElem_mem h)
    rw [ht] at hst
    have bad : (hdOk s.list[i] && !((s.list.take i).map (·.Name)).contains s.list[i].Name) = false → hdrs s.list = false := fun hb => hTo_mono (i := i + 1) h (by rw [hst]; simpa using hb)
    refine loop_drop i (fun j e H c' => e 1 = .ptr 0 c 3 0 0 ∧ e 3 = .int .i64 i ∧ e 4 = .int .i64 j ∧ ((s.list.take j).map (·.Name)).contains s.list[i].Name = false ∧ H = [⟨false, c, 3, [[.str b, s.av 2 THeader.enc, .nsl]]⟩]) ⟨by simp [upd, e1], by simp [upd, e3], by simp [upd], by simp, rfl⟩ ?_
    intro j e H c' hj ⟨e1, e3, e4, hc, hH⟩ N' hN'
    subst hH
    simp [e1, e3, e4]
    refine ⟨fun hji => ?_, fun hji => ?_⟩
    · have hgj : s.list[j]? = some s.list[j] := List.getElem?_eq_getElem (by omega)
      refine ⟨_, hgj, ?_⟩
      simp [e1, e3, e4]
      refine ⟨_, hg, ?_⟩
      by_cases hq : s.list[j].Name = s.list[i].Name
      · simp [e1, e3, e4, hq]
        exact fin_plain ⟨by rw [bad (by rw [contains_hit hji (by omega) hq]; simp)], rfl⟩
      · simp [e1, e3, e4, hq]
        exact hN' _ _ _ _ hji (List.Sublist.refl _) ⟨by simp [upd, e1], by simp [upd, e3], by simp [upd]; exact step64 (by unfold mx; omega) hji, contains_step (by omega) hc hq, rfl⟩
    · have hji' : j = i := by omega
      subst hji'
      refine ⟨_, hg, ?_⟩
      simp [e1, e3, e4]
      refine call_fn0 (spec_hName hok.1) .bool fun _ _ => ?_
      cases h3 : hName s.list[j].Name
      · simp [e1, e3, e4]
        exact fin_plain ⟨by rw [bad (by simp [hdOk, h3])], rfl⟩
      simp [e1, e3, e4]
      refine ⟨_, hg, ?_⟩
      simp [e1, e3, e4]
      refine call_fn0 (spec_hVal hok.2) .bool fun _ _ => ?_
      cases h4 : hVal s.list[j].Value
      · simp [e1, e3, e4]
        exact fin_plain ⟨by rw [bad (by simp [hdOk, h4])], rfl⟩
      simp [e1, e3, e4]
      exact hN _ _ _ _ h (List.Sublist.refl _) ⟨by simp [upd, e1], by simp [upd]; exact step64 hn h, by rw [hst, hc]; simp [hdOk, h3, h4], rfl⟩
  · have h1' : i = s.list.length := by omega
    subst h1'
    refine loop_drop 0 (fun j e H c' => e 1 = .ptr 0 c 3 0 0 ∧ e 5 = .int .i64 0 ∧ H = [⟨false, c, 3, [[.str b, s.av 2 THeader.enc, .nsl]]⟩]) ⟨by simp [upd, e1], rfl, rfl⟩ ?_
    intro j e H c' hj ⟨e1, e5, hH⟩ N' hN'
    subst hH
    simp [e1, e5]
    exact fin_plain ⟨by unfold hdrs; rw [ht], rfl⟩

/-! ### the program's -/
def nmRow (x : THeader) : List AV := [.str x.Name, .bool true]
theorem nfind_no {id : List UInt8} : ∀ (l : List THeader) (k : Nat), (l.map (·.Name)).contains id = false → mfind (.str id) (l.map nmRow) k = some none
  | [], k, _ => rfl
  | x :: l, k, h => by
    simp only [List.map_cons, List.contains_cons, Bool.or_eq_false_iff] at h
    have e : keyEq (.str id) (.str x.Name) = some false := by simp only [keyEq]; rw [h.1]
    simp only [List.map_cons, nmRow, mfind, e]
    exact nfind_no l (k + 1) h.2
theorem nfind_yes {id : List UInt8} : ∀ (l : List THeader) (k : Nat), (l.map (·.Name)).contains id = true → ∃ j, mfind (.str id) (l.map nmRow) k = some (some (j, .bool true))
  | [], k, h => by simp at h
  | x :: l, k, h => by
    cases e : (id == x.Name) with
    | true =>
      have e' : keyEq (.str id) (.str x.Name) = some true := by simp only [keyEq]; rw [e]
      exact ⟨k, by simp only [List.map_cons, nmRow, mfind, e']⟩
    | false =>
      have e' : keyEq (.str id) (.str x.Name) = some false := by simp only [keyEq]; rw [e]
      simp only [List.map_cons, List.contains_cons, e, Bool.false_or] at h
      obtain ⟨j, hj⟩ := nfind_yes l (k + 1) h
      exact ⟨j, by simp only [List.map_cons, nmRow, mfind, e']; exact hj⟩
def nmRows (l : List THeader) (i : Nat) : List (List AV) := (l.take i).map nmRow
theorem nmRows_step {l : List THeader} {i : Nat} (h : i < l.length) : nmRows l (i + 1) = nmRows l i ++ [nmRow l[i]] := by
  unfold nmRows; rw [List.take_succ_eq_append_getElem h, List.map_append]; rfl
theorem nmRows_len {l : List THeader} {i : Nat} : (nmRows l i).length ≤ i := by unfold nmRows; simp; omega
theorem lookup_no {H : List AObj} {d : TypeDesc} {z k : AV} {i tag : Nat} {rows : List (List AV)} {w : Nat} {K : AV → Prop} (hd : keyFits d k = true) (ho : H[i]? = some ⟨true, tag, w, rows⟩) (hm : mfind k rows 0 = some none) (h : K z) : lookupW d z false (.mref i tag) k H K :=
  ⟨hd, _, ho, rfl, rfl, by rw [hm]; exact h⟩
theorem lookup_yes {H : List AObj} {d : TypeDesc} {z k v : AV} {i tag j : Nat} {rows : List (List AV)} {w : Nat} {K : AV → Prop} (hd : keyFits d k = true) (ho : H[i]? = some ⟨true, tag, w, rows⟩) (hm : mfind k rows 0 = some (some (j, v))) (h : K v) : lookupW d z false (.mref i tag) k H K :=
  ⟨hd, _, ho, rfl, rfl, by rw [hm]; exact h⟩
theorem mupd_no {H : List AObj} {c : Nat} {d : TypeDesc} {k v : AV} {i tag : Nat} {rows : List (List AV)} {w : Nat} {K : AV → List AObj → Nat → Prop} (hd : keyFits d k = true) (ho : H[i]? = some ⟨true, tag, w, rows⟩) (hm : mfind k rows 0 = some none) (hl : rows.length < mx) (h : K .und (H.set i ⟨true, tag, w, rows ++ [[k, v]]⟩) c) : mupdW d (.mref i tag) k v H c K :=
  ⟨hd, _, ho, rfl, rfl, by rw [hm]; exact ⟨hl, h⟩⟩

theorem impl_out {b : List UInt8} {s : SL THeader} (hb : b.length ≤ mx) (hs : okHeaderS s) : Fnc Try.prog 113 [.agg (outArg b s)] (.bool (outOk b s.list)) := by
  have hn := hs.1
  refine fn_of c113 (by simp [F113]) fun c => ?_
  unfold F113 outArg
  simp
  refine call_fn0 impl_total .int fun cc _ => ?_
  by_cases h1 : (3000 : Int) < b.length
  · simp [h1]
    exact fin_plain ⟨by simp [outOk]; intros; omega, rfl⟩
  by_cases h2 : (8 : Int) < s.list.length
  · simp [h1, h2]
    exact fin_plain ⟨by simp [outOk]; intros; omega, rfl⟩
  simp [h1, h2]
  have hsum : outOk b s.list = hdrs s.list := by
    have e1 : b.length ≤ 3000 := by omega
    have e2 : s.list.length ≤ 8 := by omega
    simp [outOk, e1, e2]
  rw [hsum]
  refine loop_drop 0 (fun j e H c' => e 1 = .ptr 0 c 3 0 0 ∧ e 25 = .int .i64 0 ∧ e 26 = .int .i64 0 ∧ c ≤ c' ∧ H = [⟨false, c, 3, [[.str b, s.av 2 THeader.enc, .nsl]]⟩]) ⟨rfl, rfl, rfl, by omega, rfl⟩ ?_
  intro j e H c2 hj ⟨e1, e25, e26, hc2, hH⟩ N' hN'
  subst hH
  simp [e1, e25, e26]
  refine loop_drop s.list.length (fun i e H c' => e 5 = .mref 1 c2 ∧ e 37 = s.av 2 THeader.enc ∧ e 38 = .int .i64 s.list.length ∧ e 39 = .int .i64 i ∧ hTo s.list i = true ∧ H = [⟨false, c, 3, [[.str b, s.av 2 THeader.enc, .nsl]]⟩, ⟨true, c2, 0, nmRows s.list i⟩]) ⟨rfl, rfl, rfl, rfl, rfl, rfl⟩ ?_
  intro i e H c' hi ⟨e5, e37, e38, e39, ht, hH⟩ N hN
  subst hH
  simp [e5, e37, e38, e39]
  refine ⟨fun h => ⟨s.list[i], List.getElem?_eq_getElem h, ?_⟩, fun h => ?_⟩
  · have hst := hTo_step h
    have hok := hs.2 _ (List.getElem_mem h)
    have htk := nmRows_step h
    rw [ht] at hst
    have bad : (hdOk s.list[i] && !((s.list.take i).map (·.Name)).contains s.list[i].Name) = false → hdrs s.list = false := fun hb => hTo_mono (i := i + 1) h (by rw [hst]; simpa using hb)
    generalize s.list[i] = x at hst hok htk bad
    simp [e5, e37, e38, e39]
    cases hc : ((s.list.take i).map (·.Name)).contains x.Name
    rotate_left
    · obtain ⟨j, hj⟩ : ∃ j, mfind (.str x.Name) (nmRows s.list i) 0 = some (some (j, .bool true)) := nfind_yes _ 0 hc
      refine lookup_yes rfl rfl hj ?_
      simp [e5, e37, e38, e39]
      exact fin_plain ⟨by rw [bad (by rw [hc]; simp)], rfl⟩
    have hm : mfind (.str x.Name) (nmRows s.list i) 0 = some none := nfind_no _ 0 hc
    refine lookup_no rfl rfl hm ?_
    simp [e5, e37, e38, e39]
    refine call_fn0 (impl_hName hok.1) .bool fun _ _ => ?_
    cases h3 : hName x.Name
    · simp [e5, e37, e38, e39]
      exact fin_plain ⟨by rw [bad (by simp [hdOk, h3])], rfl⟩
    simp [e5, e37, e38, e39]
    refine call_fn0 (impl_hVal hok.2) .bool fun _ _ => ?_
    cases h4 : hVal x.Value
    · simp [e5, e37, e38, e39]
      exact fin_plain ⟨by rw [bad (by simp [hdOk, h4])], rfl⟩
    simp [e5, e37, e38, e39]
    refine mupd_no rfl rfl hm (by have := nmRows_len (l := s.list) (i := i); unfold mx; omega) ?_
    simp [e5, e37, e38, e39]
    exact hN _ _ _ _ h (sub_two _ _ _) ⟨by simp [upd, e5], by simp [upd, e37], by simp [upd, e38], by simp [upd]; exact step64 hn h, by rw [hst, hc]; simp [hdOk, h3, h4], by rw [htk]; rfl⟩
  · have h1' : i = s.list.length := by omega
    subst h1'
    exact fin_plain ⟨by unfold hdrs; rw [ht], rfl⟩

def isResp (x : TResponse) : Bool := !decide (reason x.Code = []) && outOk x.Body x.Headers.list
theorem spec_isR {x : TResponse} (hx : x.ok) : Fnc Try.prog 60 [.agg x.enc] (.bool (isResp x)) := by
  have hx' : okHeaderS x.Headers ∧ x.Body.length ≤ mx := hx
  refine fn_of c60 (by simp [F60]) fun c => ?_
  unfold F60
  simp
  refine call_fn0 (spec_reason _) .str fun _ _ => ?_
  by_cases h1 : reason x.Code = []
  · simp [h1]
    exact fin_plain ⟨by simp [isResp, h1], rfl⟩
  simp [h1, putA]
  refine call_fn0 (spec_out hx'.2 hx'.1) .bool fun _ _ => ?_
  simp [h1]
  exact fin_plain ⟨by simp [isResp, h1], rfl⟩
theorem impl_isR {x : TResponse} (hx : x.ok) : Fnc Try.prog 62 [.agg x.enc] (.bool (isResp x)) := by
  have hx' : okHeaderS x.Headers ∧ x.Body.length ≤ mx := hx
  refine fn_of c62 (by simp [F62]) fun c => ?_
  unfold F62
  simp
  refine call_fn0 (impl_reason _) .str fun _ _ => ?_
  by_cases h1 : reason x.Code = []
  · simp [h1]
    exact fin_plain ⟨by simp [isResp, h1], rfl⟩
  simp [h1, putA]
  refine call_fn0 (impl_out hx'.2 hx'.1) .bool fun _ _ => ?_
  simp [h1]
  exact fin_plain ⟨by simp [isResp, h1], rfl⟩
theorem resp_same {a b : TResponse} (h : a.con = b.con) : a.Code = b.Code ∧ a.Body = b.Body ∧ a.Headers.list = b.Headers.list :=
  ⟨(congrArg TResponse.Code h : a.con.Code = b.con.Code), (congrArg TResponse.Body h : a.con.Body = b.con.Body), by
    have h1 : (a.con.Headers).list = (b.con.Headers).list := congrArg (fun z => z.Headers.list) h
    have e : ∀ l : List THeader, l.map THeader.con = l := fun l => List.map_id' l
    simpa [TResponse.con, e] using h1⟩
theorem isResp_con {a b : TResponse} (h : a.con = b.con) : isResp a = isResp b := by
  obtain ⟨h1, h2, h3⟩ := resp_same h
  unfold isResp; rw [h1, h2, h3]
theorem ok_con {a b : TResponse} (h : a.con = b.con) (ha : b.ok) : a.ok := by
  obtain ⟨h1, h2, h3⟩ := resp_same h
  unfold TResponse.ok okHeaderS at ha ⊢; rw [h2, h3]; exact ha
def TResponse.at (c : Nat) (a : TResponse) : TResponse := { a with Headers := .mk c a.Headers.list }
theorem TResponse.at_con (c : Nat) (a : TResponse) : (a.at c).con = a.con := rfl
theorem TResponse.at_from (c : Nat) (a : TResponse) : From c (.agg (a.at c).enc) := from_agg fun x hx => by
  simp [TResponse.enc, TResponse.at, SL.av] at hx
  rcases hx with rfl | rfl | rfl
  · simp
  · refine from_slc (Nat.le_refl _) fun row hr y hy => ?_
    obtain ⟨h, _, rfl⟩ := List.mem_map.1 hr
    simp [THeader.enc] at hy
    rcases hy with rfl | rfl <;> simp
  · simp
def IsR (a : TResponse) (v : AV) : Prop := ∃ b : TResponse, v = .agg b.enc ∧ b.con = a.con
theorem IsR_some (a : TResponse) (c : Nat) : ∃ r, IsR a r ∧ From c r := ⟨_, ⟨a.at c, rfl, a.at_con c⟩, a.at_from c⟩

theorem law_isR {a : TResponse} (ha : a.ok) (c : Nat) : Con Try.prog 14 [.agg a.enc] [] c fun r H' _ => r = .bool true ∧ H' = [] := by
  refine con_of c14 (by simp [F14]) ?_
  unfold F14
  simp
  refine call_fn0 (TResponse.sz_fn ha ⟨by omega, by omega⟩) .int fun _ _ => ?_
  simp
  refine ⟨fun _ => fin_plain ⟨rfl, rfl⟩, fun h1 => ?_⟩
  obtain ⟨h1', h1''⟩ := szOf_ge h1
  have hz : ∀ x : TResponse, x.con = a.con → x.sz ≤ 1048576 := fun x hx => by rw [← x.sz_con, hx, a.sz_con]; omega
  refine call_tree0 (TResponse.to_fn (hz a rfl)) fun r1 _ _ ⟨a1, e1, q1⟩ _ => ?_
  subst e1
  simp
  refine call_fn0 (spec_isR (ok_con q1 ha)) .bool fun _ _ => ?_
  simp
  refine call_tree0 (TResponse.to_fn (hz a rfl)) fun r2 _ _ ⟨a2, e2, q2⟩ _ => ?_
  subst e2
  simp
  refine call_fn0 (impl_isR (ok_con q2 ha)) .bool fun _ _ => ?_
  simp [isResp_con q1, isResp_con q2]
  refine ⟨fun d v => if d = 24 then IsR a v else v = .bool true, ?_⟩
  simp
  refine callD_tree0 (TResponse.to_fn (hz a rfl)) (IsR_some a _) fun r3 ⟨a3, e3, q3⟩ _ => ?_
  subst e3
  simp
  refine callD_fn0 (TResponse.eq_fn (by have := hz _ q2; omega) (q2.trans q3.symm)) (fun v => Iff.rfl) (by simp) ?_
  simp
  intro c2 _
  exact fin_plain ⟨rfl, rfl⟩
end A
end Go.Proofs.Ytgiiipbpadgcgaa
