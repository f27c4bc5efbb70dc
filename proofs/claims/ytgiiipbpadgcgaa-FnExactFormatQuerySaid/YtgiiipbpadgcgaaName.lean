/-
  Names, of the reference and of the program. No condition.
-/
import Derived.Test.YtgiiipbpadgcgaaBase
namespace Go.Proofs.Ytgiiipbpadgcgaa
namespace A
set_option linter.unusedVariables false
set_option linter.unusedSimpArgs false
set_option maxRecDepth 100000

def isL (b : UInt8) : Bool := inR b.toNat 97 122 || inR b.toNat 65 90 || decide (b.toNat = 95)
def isD (b : UInt8) : Bool := inR b.toNat 48 57
theorem wrap_b (b : UInt8) : IntKind.i64.wrap (b.toNat : Int) = b.toNat := by
  have := b.toNat_lt
  exact wrap64 (by omega) (by omega)
theorem letter_fn (b : UInt8) : Fnc Try.prog 160 [.int .u8 b.toNat] (.bool (isL b)) := by
  refine fn_of c160 (by simp [F160]) fun c => ?_
  unfold F160
  simp [wrap_b]
  refine call_fn0 (l1In_fn _ _ _) .bool fun _ _ => ?_
  cases h1 : inR b.toNat 97 122 <;> simp [wrap_b]
  · refine call_fn0 (l1In_fn _ _ _) .bool fun _ _ => ?_
    cases h2 : inR b.toNat 65 90 <;> simp
    · exact fin_plain ⟨by simp [isL, h1, h2]; omega, rfl⟩
    · exact fin_plain ⟨by simp [isL, h1, h2], rfl⟩
  · exact fin_plain ⟨by simp [isL, h1], rfl⟩
theorem digit_fn (b : UInt8) : Fnc Try.prog 161 [.int .u8 b.toNat] (.bool (isD b)) := by
  refine fn_of c161 (by simp [F161]) fun c => ?_
  unfold F161
  simp [wrap_b]
  refine call_fn0 (l1In_fn _ _ _) .bool fun _ _ => ?_
  simp
  exact fin_plain ⟨rfl, rfl⟩
def isA (b : UInt8) : Bool := inR b.toNat 65 90 || inR b.toNat 97 122
theorem isLetter_fn (b : UInt8) : Fnc Try.prog 162 [.int .u8 b.toNat] (.bool (isA b)) := by
  refine fn_of c162 (by simp [F162]) fun c => ?_
  unfold F162 isA inR
  by_cases h1 : (65 : Int) ≤ b.toNat <;> by_cases h2 : (b.toNat : Int) ≤ 90 <;> by_cases h3 : (97 : Int) ≤ b.toNat <;> simp [h1, h2, h3] <;> exact fin_plain (by simp)
theorem isDigit_fn (b : UInt8) : Fnc Try.prog 163 [.int .u8 b.toNat] (.bool (isD b)) := by
  refine fn_of c163 (by simp [F163]) fun c => ?_
  unfold F163 isD inR
  by_cases h1 : (48 : Int) ≤ b.toNat <;> simp [h1] <;> exact fin_plain (by simp)
theorem isL_A (b : UInt8) : isL b = (isA b || decide (b.toNat = 95)) := by
  simp [isL, isA, Bool.or_comm (inR b.toNat 97 122)]

/-- The end of the name. -/
def nm : List UInt8 → Nat → Nat
  | [], i => i
  | b :: l, i => if isL b || (decide (0 < i) && isD b) then nm l (i + 1) else i
theorem nm_go {l : List UInt8} {i : Nat} (h : i < l.length) (e : (isL l[i] || (decide (0 < i) && isD l[i])) = true) : nm (l.drop i) i = nm (l.drop (i + 1)) (i + 1) := by
  rw [List.drop_eq_getElem_cons h, nm, if_pos e]
theorem nm_stop {l : List UInt8} {i : Nat} (h : i < l.length) (e : (isL l[i] || (decide (0 < i) && isD l[i])) = false) : nm (l.drop i) i = i := by
  rw [List.drop_eq_getElem_cons h, nm, if_neg (by simp only [e]; simp)]
theorem nm_end {l : List UInt8} {i : Nat} (h : l.length ≤ i) : nm (l.drop i) i = i := by
  rw [List.drop_eq_nil_of_le h]; rfl
theorem specName_fn {l : List UInt8} (hl : l.length ≤ mx) : Fnc Try.prog 127 [.str l, .int .i64 0] (.int .i64 (nm l 0)) := by
  refine fn_of c127 (by simp [F127]) fun c => ?_
  unfold F127
  simp
  refine loop_drop l.length (fun i e H c' => e 0 = .str l ∧ e 1 = .int .i64 0 ∧ e 5 = .int .i64 i ∧ nm (l.drop i) i = nm l 0 ∧ H = []) ⟨rfl, rfl, rfl, by simp, rfl⟩ ?_
  intro i e H c hi ⟨e0, e1, e5, hd, hH⟩ N hN
  subst hH
  rcases Nat.lt_or_ge i l.length with h | h
  · have hb : l[i]? = some l[i] := List.getElem?_eq_getElem h
    have next : (isL l[i] || (decide (0 < i) && isD l[i])) = true → nm (l.drop (i + 1)) (i + 1) = nm l 0 := fun e => by rw [← hd, nm_go h e]
    have stop : (isL l[i] || (decide (0 < i) && isD l[i])) = false → i = nm l 0 := fun e => by rw [← hd, nm_stop h e]
    generalize l[i] = b at hb next stop
    simp [e0, e1, e5, h]
    refine ⟨_, hb, ?_⟩
    simp [e0, e1, e5, h]
    refine call_fn0 (letter_fn b) .bool fun _ _ => ?_
    cases h1 : isL b
    · by_cases h2 : 0 < i
      · simp [e0, e1, e5, h, h2]
        refine ⟨_, hb, ?_⟩
        simp [e0, e1, e5, h, h2]
        refine call_fn0 (digit_fn b) .bool fun _ _ => ?_
        cases h3 : isD b
        · simp [e0, e1, e5]
          exact fin_plain ⟨by rw [stop (by simp [h1, h3])], rfl⟩
        · simp [e0, e1, e5]
          exact hN _ _ _ _ h (List.Sublist.refl _) ⟨by simp [upd, e0], by simp [upd, e1], by simp [upd]; exact step64 hl h, next (by simp [h1, h2, h3]), rfl⟩
      · simp [e0, e1, e5, h, h2]
        exact fin_plain ⟨by rw [stop (by simp [h1, h2])], rfl⟩
    · simp [e0, e1, e5]
      exact hN _ _ _ _ h (List.Sublist.refl _) ⟨by simp [upd, e0], by simp [upd, e1], by simp [upd]; exact step64 hl h, next (by simp [h1]), rfl⟩
  · have : ¬ (i < l.length) := by omega
    simp [e0, e1, e5, this]
    exact fin_plain ⟨by rw [← hd, nm_end h], rfl⟩
theorem implName_fn {l : List UInt8} (hl : l.length ≤ mx) : Fnc Try.prog 128 [.str l] (.int .i64 (nm l 0)) := by
  refine fn_of c128 (by simp [F128]) fun c => ?_
  unfold F128
  simp
  refine loop_drop l.length (fun i e H c' => e 0 = .str l ∧ e 3 = .int .i64 i ∧ nm (l.drop i) i = nm l 0 ∧ H = []) ⟨rfl, rfl, by simp, rfl⟩ ?_
  intro i e H c hi ⟨e0, e3, hd, hH⟩ N hN
  subst hH
  rcases Nat.lt_or_ge i l.length with h | h
  · have hb : l[i]? = some l[i] := List.getElem?_eq_getElem h
    have next : (isL l[i] || (decide (0 < i) && isD l[i])) = true → nm (l.drop (i + 1)) (i + 1) = nm l 0 := fun e => by rw [← hd, nm_go h e]
    have stop : (isL l[i] || (decide (0 < i) && isD l[i])) = false → i = nm l 0 := fun e => by rw [← hd, nm_stop h e]
    generalize l[i] = b at hb next stop
    rw [isL_A] at next stop
    simp [e0, e3, h]
    refine ⟨_, hb, ?_⟩
    simp [e0, e3, h]
    refine call_fn0 (isLetter_fn b) .bool fun _ _ => ?_
    cases h1 : isA b
    · simp [e0, e3, h]
      refine ⟨_, hb, ?_⟩
      by_cases h4 : (b.toNat : Int) = 95
      · have h4' : b.toNat = 95 := by omega
        simp [e0, e3, h4]
        exact hN _ _ _ _ h (List.Sublist.refl _) ⟨by simp [upd, e0], by simp [upd]; exact step64 hl h, next (by simp [h4']), rfl⟩
      have h4' : ¬ b.toNat = 95 := by omega
      by_cases h2 : 0 < i
      · simp [e0, e3, h, h2, h4]
        refine ⟨_, hb, ?_⟩
        simp [e0, e3, h, h2, h4]
        refine call_fn0 (isDigit_fn b) .bool fun _ _ => ?_
        cases h3 : isD b
        · simp [e0, e3, h2, h4]
          exact fin_plain ⟨by rw [stop (by simp [h1, h3, h4'])], rfl⟩
        · simp [e0, e3, h2, h4]
          exact hN _ _ _ _ h (List.Sublist.refl _) ⟨by simp [upd, e0], by simp [upd]; exact step64 hl h, next (by simp [h2, h3]), rfl⟩
      · simp [e0, e3, h, h2, h4]
        exact fin_plain ⟨by rw [stop (by simp [h1, h2, h4'])], rfl⟩
    · simp [e0, e3]
      exact hN _ _ _ _ h (List.Sublist.refl _) ⟨by simp [upd, e0], by simp [upd]; exact step64 hl h, next (by simp [h1]), rfl⟩
  · have : ¬ (i < l.length) := by omega
    simp [e0, e3, this]
    exact fin_plain ⟨by rw [← hd, nm_end h], rfl⟩

def isName (l : List UInt8) : Bool := decide (1 ≤ l.length) && decide (l.length ≤ 20) && decide (nm l 0 = l.length)
theorem spec_isName {l : List UInt8} (hl : l.length ≤ mx) : Fnc Try.prog 78 [.str l] (.bool (isName l)) := by
  refine fn_of c78 (by simp [F78]) fun c => ?_
  unfold F78
  by_cases h1 : (1 : Int) ≤ l.length
  · by_cases h2 : (l.length : Int) ≤ 20
    · simp [h1, h2]
      refine call_fn0 (specName_fn hl) .int fun _ _ => ?_
      by_cases h3 : nm l 0 = l.length
      · simp [h1, h2, h3]
        exact fin_plain ⟨by simp [isName, h3]; omega, rfl⟩
      · have h3' : ¬ (nm l 0 : Int) = l.length := by omega
        simp [h1, h2, h3']
        exact fin_plain ⟨by simp [isName, h3], rfl⟩
    · simp [h1, h2]
      exact fin_plain ⟨by simp [isName]; intros; omega, rfl⟩
  · simp [h1]
    exact fin_plain ⟨by simp [isName]; intros; omega, rfl⟩
theorem impl_isName {l : List UInt8} (hl : l.length ≤ mx) : Fnc Try.prog 82 [.str l] (.bool (isName l)) := by
  refine fn_of c82 (by simp [F82]) fun c => ?_
  unfold F82
  by_cases h2 : (l.length : Int) ≤ 20
  · simp [h2]
    refine call_fn0 (implName_fn hl) .int fun _ _ => ?_
    by_cases h3 : nm l 0 = l.length
    · simp [h2, h3]
      refine fin_plain ⟨?_, rfl⟩
      cases l with
      | nil => simp [isName]
      | cons b l => simp [isName, h3]; simp at h2; omega
    · have h3' : ¬ (nm l 0 : Int) = l.length := by omega
      simp [h2, h3']
      exact fin_plain ⟨by simp [isName, h3], rfl⟩
  · simp [h2]
    exact fin_plain ⟨by simp [isName]; intros; omega, rfl⟩
end A
end Go.Proofs.Ytgiiipbpadgcgaa
