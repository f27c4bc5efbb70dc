/-
  EscapeURL of the reference and of the program. No condition.
-/
import Derived.Test.YtgiiipbpadgcgaaName
import Derived.Test.YtgiiipbpadgcgaaSlc
namespace Go.Proofs.Ytgiiipbpadgcgaa
namespace A
set_option linter.unusedVariables false
set_option linter.unusedSimpArgs false
set_option maxRecDepth 100000

def hexL : List UInt8 := [48, 49, 50, 51, 52, 53, 54, 55, 56, 57, 65, 66, 67, 68, 69, 70]
def up (n : Nat) : UInt8 := hexL.getD n 0
theorem up_at {n : Nat} (h : n < 16) : hexL[n]? = some (up n) := by
  have : ∀ n, n < 16 → hexL[n]? = some (up n) := by decide
  exact this n h
def plainB (b : UInt8) : Bool := isA b || isD b || decide (b.toNat = 45) || decide (b.toNat = 95) || decide (b.toNat = 46) || decide (b.toNat = 126)
def escB (b : UInt8) : List UInt8 := if plainB b then [b] else [37, up (b.toNat / 16), up (b.toNat % 16)]
def escL (l : List UInt8) : List UInt8 := l.flatMap escB
theorem escB_len (b : UInt8) : (escB b).length ≤ 3 := by unfold escB; split <;> simp
theorem escL_len (l : List UInt8) : (escL l).length ≤ 3 * l.length := by
  unfold escL
  induction l with
  | nil => simp
  | cons b l ih => have := escB_len b; simp [List.flatMap_cons] at ih ⊢; omega
theorem escL_step (l : List UInt8) {i : Nat} (h : i < l.length) : escL (l.take (i + 1)) = escL (l.take i) ++ escB l[i] := by
  unfold escL; rw [List.take_succ_eq_append_getElem h, List.flatMap_append]; simp

theorem hexUpper_fn {n : Nat} (h : n < 16) : Fnc Try.prog 166 [.int .u8 n] (.int .u8 (up n).toNat) := by
  refine fn_of c166 (by simp [F166]) fun c => ?_
  unfold F166
  have hb := up_at h
  unfold hexL at hb
  simp
  refine ⟨_, hb, ?_⟩
  exact fin_plain ⟨rfl, rfl⟩
def andE (a b : Int) : Int := IntKind.i64.wrap ((BitVec.ofInt 64 a &&& BitVec.ofInt 64 b).toNat : Int)
theorem intW_andE (a b : Int) (K : AV → Prop) : intW .and .i64 a b K = K (.int .i64 (andE a b)) := rfl
theorem shr4 (a : Int) (K : AV → Prop) : binW .shr (.int .i64 a) (.int .u64 4) K = K (.int .i64 (a.fdiv 16)) := by
  simp [binW, IntKind.bits]
theorem and15 {n : Nat} (h : n < 256) : andE (n : Int) 15 = ((n % 16 : Nat) : Int) := by
  have : ∀ n : Nat, n < 256 → andE (n : Int) 15 = ((n % 16 : Nat) : Int) := by decide
  exact this n h
theorem l4Hex_fn (b : UInt8) : Fnc Try.prog 165 [.int .i64 b.toNat] (.str [up (b.toNat / 16), up (b.toNat % 16)]) := by
  refine fn_of c165 (by simp [F165]) fun c => ?_
  unfold F165
  have hlt : b.toNat < 256 := b.toNat_lt
  have h1 := up_at (n := b.toNat / 16) (by omega)
  have h2 := up_at (n := b.toNat % 16) (by omega)
  unfold hexL at h1 h2
  have q1 : ((b.toNat : Int)).fdiv 16 = ((b.toNat / 16 : Nat) : Int) := by
    rw [Int.fdiv_eq_ediv_of_nonneg _ (by omega)]; omega
  have q2 : ((b.toNat / 16 % 16 : Nat) : Int) = ((b.toNat / 16 : Nat) : Int) := by omega
  have a1 := and15 (n := b.toNat / 16) (by omega)
  have a2 := and15 hlt
  rw [q2] at a1
  simp [shr4, q1, -Int.natCast_ediv, -Int.natCast_emod, intW_andE, a1, a2]
  refine ⟨_, h1, _, h2, ?_⟩
  simp [putA, -Int.natCast_ediv, -Int.natCast_emod]
  refine toStrW_ref (l := [up (b.toNat / 16), up (b.toNat % 16)]) rfl rfl (by unfold mx; simp) ?_
  simp
  exact fin_sub (List.nil_sublist _) (.refl _) ⟨rfl, rfl⟩
theorem l4Plain_fn (b : UInt8) : Fnc Try.prog 164 [.int .u8 b.toNat] (.bool (plainB b)) := by
  refine fn_of c164 (by simp [F164]) fun c => ?_
  unfold F164
  simp [wrap_b]
  refine call_fn0 (l1In_fn _ _ _) .bool fun _ _ => ?_
  cases h1 : inR b.toNat 97 122 <;> simp
  · refine call_fn0 (l1In_fn _ _ _) .bool fun _ _ => ?_
    cases h2 : inR b.toNat 65 90 <;> simp
    · refine call_fn0 (l1In_fn _ _ _) .bool fun _ _ => ?_
      cases h3 : inR b.toNat 48 57 <;> simp
      · by_cases h4 : (b.toNat : Int) = 45
        · simp [h4]; exact fin_plain ⟨by simp [plainB]; omega, rfl⟩
        by_cases h5 : (b.toNat : Int) = 95
        · simp [h4, h5]; exact fin_plain ⟨by simp [plainB]; omega, rfl⟩
        by_cases h6 : (b.toNat : Int) = 46
        · simp [h4, h5, h6]; exact fin_plain ⟨by simp [plainB]; omega, rfl⟩
        by_cases h7 : (b.toNat : Int) = 126
        · simp [h4, h5, h6, h7]; exact fin_plain ⟨by simp [plainB]; omega, rfl⟩
        · simp [h4, h5, h6, h7]; exact fin_plain ⟨by simp [plainB, isA, isD, h1, h2, h3]; omega, rfl⟩
      · exact fin_plain ⟨by simp [plainB, isD, isA, h1, h2, h3], rfl⟩
    · exact fin_plain ⟨by simp [plainB, isA, h1, h2], rfl⟩
  · exact fin_plain ⟨by simp [plainB, isA, h1], rfl⟩
theorem take1 {l : List UInt8} {i : Nat} {b : UInt8} (h : l[i]? = some b) : List.drop i (List.take (i + 1) l) = [b] := by
  obtain ⟨hi, rfl⟩ := List.getElem?_eq_some_iff.1 h
  rw [List.take_succ_eq_append_getElem hi, List.drop_append_of_le_length (by simp; omega)]
  simp
theorem specEsc_fn {l : List UInt8} (hl : l.length ≤ 1048576) : Fnc Try.prog 134 [.str l] (.str (escL l)) := by
  refine fn_of c134 (by simp [F134]) fun c => ?_
  unfold F134
  simp
  refine loop_drop l.length (fun i e H c' => e 0 = .str l ∧ e 3 = .str (escL (l.take i)) ∧ e 4 = .int .i64 i ∧ H = []) ⟨rfl, by simp [escL], rfl, rfl⟩ ?_
  intro i e H c hi ⟨e0, e3, e4, hH⟩ N hN
  subst hH
  simp [e0, e3, e4]
  refine ⟨fun h => ?_, fun h => ?_⟩
  · have hb : l[i]? = some l[i] := List.getElem?_eq_getElem h
    have hst := escL_step l h
    have hle := escL_len (l.take i)
    simp at hle
    have hw : IntKind.i64.wrap ((i : Int) + 1) = ((i + 1 : Nat) : Int) := by rw [step64 (by unfold mx; omega) h]; rfl
    generalize l[i] = b at hb hst
    have ht := take1 hb
    refine ⟨_, hb, ?_⟩
    simp [e0, e3, e4]
    refine call_fn0 (l4Plain_fn b) .bool fun _ _ => ?_
    cases h1 : plainB b
    · simp [e0, e3, e4]
      refine ⟨by unfold mx; omega, _, hb, ?_⟩
      simp only [wrap_b, Lz_app]
      refine call_fn0 (l4Hex_fn b) .str fun _ _ => ?_
      simp [e0, e3, e4]
      refine ⟨by unfold mx; omega, hN _ _ _ _ h (List.Sublist.refl _) ⟨by simp [upd, e0], ?_, by simp [upd, hw], rfl⟩⟩
      simp [upd, hst, escB, h1]
    · simp [e0, e3, e4, hw, ht]
      refine ⟨by omega, by omega, by unfold mx; omega, hN _ _ _ _ h (List.Sublist.refl _) ⟨by simp [upd, e0], ?_, by simp [upd], rfl⟩⟩
      simp [upd, hst, escB, h1]
  · have : i = l.length := by omega
    subst this
    exact fin_plain ⟨by simp, rfl⟩
theorem implEsc_fn {l : List UInt8} (hl : l.length ≤ 1048576) : Fnc Try.prog 135 [.str l] (.str (escL l)) := by
  refine fn_of c135 (by simp [F135]) fun c => ?_
  unfold F135
  simp
  refine loop_drop l.length (fun i e H c' => e 0 = .str l ∧ e 4 = .int .i64 i ∧ ∃ t, e 3 = .ref 0 t 1 (escL (l.take i)).length ∧ H = [⟨false, t, 1, (escL (l.take i)).map byteRow⟩]) ⟨rfl, rfl, _, by simp [escL]; rfl, by simp [escL]⟩ ?_
  intro i e H c hi ⟨e0, e4, t, e3, hH⟩ N hN
  subst hH
  simp [e0, e3, e4]
  refine ⟨fun h => ?_, fun h => ?_⟩
  · have hb : l[i]? = some l[i] := List.getElem?_eq_getElem h
    have hst := escL_step l h
    have hle := escL_len (l.take i)
    simp at hle
    have hw : IntKind.i64.wrap ((i : Int) + 1) = ((i + 1 : Nat) : Int) := by rw [step64 (by unfold mx; omega) h]; rfl
    generalize l[i] = b at hb hst
    have hm1 : (escL (l.take i)).length + 1 ≤ 140737488355328 := by omega
    have hm2 : (escL (l.take i)).length + 1 ≤ mx := by unfold mx; omega
    have hm3 : (escL (l.take i)).length + 3 ≤ 140737488355328 := by omega
    have hm4 : (escL (l.take i)).length + 3 ≤ mx := by unfold mx; omega
    refine ⟨_, hb, ?_⟩
    simp [e0, e3, e4]
    refine call_fn0 (isLetter_fn b) .bool fun _ _ => ?_
    cases h1 : isA b
    case true =>
      simp [e0, e3, e4, hm1, hm2, hw]
      refine hN _ _ _ _ h (sub_one _ _) ⟨by simp [upd, e0], by simp [upd], _, by simp [upd, hst, escB, plainB, h1]; rfl, by simp [hst, escB, plainB, h1, byteRow]⟩
    simp [e0, e3, e4]
    refine call_fn0 (isDigit_fn b) .bool fun _ _ => ?_
    cases h2 : isD b
    case true =>
      simp [e0, e3, e4, hm1, hm2, hw]
      refine hN _ _ _ _ h (sub_one _ _) ⟨by simp [upd, e0], by simp [upd], _, by simp [upd, hst, escB, plainB, h1, h2]; rfl, by simp [hst, escB, plainB, h1, h2, byteRow]⟩
    by_cases h4 : b.toNat = 45
    · simp [e0, e3, e4, hm1, hm2, hw, h4]
      refine hN _ _ _ _ h (sub_one _ _) ⟨by simp [upd, e0], by simp [upd], _, by simp [upd, hst, escB, plainB, h1, h2, h4]; rfl, by simp [hst, escB, plainB, h1, h2, h4, byteRow]⟩
    by_cases h5 : b.toNat = 95
    · simp [e0, e3, e4, hm1, hm2, hw, h4, h5]
      refine hN _ _ _ _ h (sub_one _ _) ⟨by simp [upd, e0], by simp [upd], _, by simp [upd, hst, escB, plainB, h1, h2, h4, h5]; rfl, by simp [hst, escB, plainB, h1, h2, h4, h5, byteRow]⟩
    by_cases h6 : b.toNat = 46
    · simp [e0, e3, e4, hm1, hm2, hw, h4, h5, h6]
      refine hN _ _ _ _ h (sub_one _ _) ⟨by simp [upd, e0], by simp [upd], _, by simp [upd, hst, escB, plainB, h1, h2, h4, h5, h6]; rfl, by simp [hst, escB, plainB, h1, h2, h4, h5, h6, byteRow]⟩
    by_cases h7 : b.toNat = 126
    · simp [e0, e3, e4, hm1, hm2, hw, h4, h5, h6, h7]
      refine hN _ _ _ _ h (sub_one _ _) ⟨by simp [upd, e0], by simp [upd], _, by simp [upd, hst, escB, plainB, h1, h2, h4, h5, h6, h7]; rfl, by simp [hst, escB, plainB, h1, h2, h4, h5, h6, h7, byteRow]⟩
    have hp : plainB b = false := by simp [plainB, h1, h2, h4, h5, h6, h7]
    have k4 : ¬ (b.toNat : Int) = 45 := by omega
    have k5 : ¬ (b.toNat : Int) = 95 := by omega
    have k6 : ¬ (b.toNat : Int) = 46 := by omega
    have k7 : ¬ (b.toNat : Int) = 126 := by omega
    have hlt := b.toNat_lt
    have q1 : ((b.toNat : Int)).tdiv 16 = ((b.toNat / 16 : Nat) : Int) := by rw [Int.tdiv_eq_ediv_of_nonneg (by omega)]; omega
    have q2 : ((b.toNat : Int)).tmod 16 = ((b.toNat % 16 : Nat) : Int) := by rw [Int.tmod_eq_emod_of_nonneg (by omega)]; omega
    have q3 : IntKind.u8.wrap ((b.toNat / 16 : Nat) : Int) = ((b.toNat / 16 : Nat) : Int) := by rw [IntKind.wrap_u8]; omega
    simp [e0, e3, e4, k4, k5, k6, k7, q1, q3, -Int.natCast_ediv, -Int.natCast_emod]
    refine call_fn0 (hexUpper_fn (by omega)) .int fun _ _ => ?_
    simp [e0, e3, e4, q2, -Int.natCast_ediv, -Int.natCast_emod]
    refine call_fn0 (hexUpper_fn (by omega)) .int fun _ _ => ?_
    simp [e0, e3, e4, hm3, hm4, hw, -Int.natCast_ediv, -Int.natCast_emod]
    refine hN _ _ _ _ h (sub_one _ _) ⟨by simp [upd, e0], by simp [upd], _, by simp [upd, hst, escB, hp]; rfl, by simp [hst, escB, hp, byteRow]⟩
  · have : i = l.length := by omega
    subst this
    have hle := escL_len l
    simp
    refine toStrW_ref (l := escL l) rfl rfl (by unfold mx; omega) ?_
    simp
    exact fin_sub (List.nil_sublist _) (.refl _) ⟨rfl, rfl⟩
end A
end Go.Proofs.Ytgiiipbpadgcgaa
