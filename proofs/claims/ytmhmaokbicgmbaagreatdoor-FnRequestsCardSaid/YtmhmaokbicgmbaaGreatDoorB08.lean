import Derived.Lib.Split
import Derived.Test.YtmhmaokbicgmbaaGreatDoorB07

/-
  Numbers, read: strconv.Atoi, and the program's parseWithin and ParseInt. No condition.
-/


namespace Go.Proofs.YtmhmaokbicgmbaaGreatDoor
namespace A
set_option linter.unusedVariables false
set_option linter.unusedSimpArgs false
set_option maxRecDepth 100000
open Go.RowKit

def atoiN (l : List UInt8) : Int := match Lib.atoiAll l with | .ok v => v | .range => Lib.atoiSat l | _ => 0
def atoiE (l : List UInt8) : Bool := match Lib.atoiAll l with | .ok _ => true | _ => false
theorem err_cell {G : Gh} {H : List AObj} {w : World} (I : Inv G H w.heap) {b : Nat} (hb : b = 3 ∨ b = 4) : ∃ ev, w.cell? ⟨b, 0, none⟩ = some ev ∧ (ev = .nilIface ∨ ∃ te pe, ev = .iface te pe) := by
  obtain ⟨_, _, hm, hg⟩ := I.gl b (by rcases hb with rfl | rfl <;> decide)
  obtain ⟨c, t, fr, ev, ho, hc, he⟩ := gl_err hb hg
  exact ⟨ev, by unfold World.cell?; simp only [ho]; exact hc, he⟩
theorem atoi_bnd (l : List UInt8) : -9223372036854775808 ≤ atoiN l ∧ atoiN l ≤ 9223372036854775807 := by
  unfold atoiN
  cases h : Lib.atoiAll l with
  | ok v => exact Lib.atoiAll_bounds h
  | range => exact Lib.atoiSat_bounds l
  | _ => exact ⟨(by decide : (-9223372036854775808 : Int) ≤ 0), (by decide : (0 : Int) ≤ 9223372036854775807)⟩
theorem atoi_fn {l : List UInt8} (hl : l.length ≤ 1048576) : Fnc Tryz.prog 127 [.str l] (.tup [.int .i64 (atoiN l), .ifc (atoiE l)]) := by
  intro c
  refine con_below (res := .tup [.int .i64 (atoiN l), .ifc (atoiE l)]) (fun G w vs hc I hs hr => ?_) ⟨rfl, rfl⟩
  obtain ⟨v0, rfl⟩ : ∃ v0, vs = #[v0] := by
    match vs, hs with
    | ⟨[a]⟩, _ => exact ⟨a, rfl⟩
  have h0 := hr 0 _ rfl
  simp at h0
  have hb := atoi_bnd l
  have hi : IOk .i64 (atoiN l) := by
    have e1 : IntKind.i64.min = -9223372036854775808 := by decide
    have e2 : IntKind.i64.max = 9223372036854775807 := by decide
    exact ⟨by omega, by omega⟩
  cases h0 with
  | @str s _ e hl0 =>
  have hsz : s.size ≤ 1048576 := by rw [Lib.size_eq, e]; exact hl
  cases h : Lib.atoiAll l with
  | ok v =>
    have hn : atoiN l = v := by unfold atoiN; rw [h]
    have he : atoiE l = true := by unfold atoiE; rw [h]
    rw [hn, he]
    rw [hn] at hi
    refine (Tryz.strconv_Atoi_ok s (by omega) v (by rw [e]; exact h) w).mono fun e w' ⟨h1, h2⟩ => ⟨_, h1, ?_, ?_⟩
    · rcases h2 with rfl | ⟨t, rfl⟩
      · exact Below.refl _ _
      · exact Lib.bytesWorld_below _ _ _
    · refine .tup rfl fun j a hj => ?_
      match j, hj with
      | 0, hj => cases hj; exact .int hi
      | 1, hj => cases hj; exact .nilI
  | range =>
    have hn : atoiN l = Lib.atoiSat l := by unfold atoiN; rw [h]
    have he : atoiE l = false := by unfold atoiE; rw [h]
    rw [hn, he]
    rw [hn] at hi
    obtain ⟨ev, hv, hev⟩ := err_cell I (.inr rfl)
    refine (Tryz.strconv_Atoi_range s (by omega) (by rw [e]; exact h) ev w hv hev).mono fun e' w' ⟨B, h1, h2, h3, h4⟩ => ⟨_, h1, h4, ?_⟩
    refine .tup rfl fun j a hj => ?_
    match j, hj with
    | 0, hj => cases hj; rw [e]; exact .int hi
    | 1, hj => cases hj; exact .ifc
  | _ =>
    have hn : atoiN l = 0 := by unfold atoiN; rw [h]
    have he : atoiE l = false := by unfold atoiE; rw [h]
    rw [hn, he]
    rw [hn] at hi
    obtain ⟨ev, hv, hev⟩ := err_cell I (.inl rfl)
    refine (Tryz.strconv_Atoi_syntax s (by omega) (by rw [e, h]; intro v hc; cases hc) (by rw [e, h]; intro hc; cases hc) ev w hv hev).mono fun e w' ⟨B, h1, h2, h3, h4⟩ => ⟨_, h1, h4, ?_⟩
    refine .tup rfl fun j a hj => ?_
    match j, hj with
    | 0, hj => cases hj; exact .int hi
    | 1, hj => cases hj; exact .ifc
theorem itoa_le {n : Int} (h0 : -9223372036854775808 ≤ n) (h1 : n ≤ 9223372036854775807) : (Lib.itoa n).length ≤ 21 := by
  unfold Lib.itoa
  split
  · have := nDigits_le 19 n.natAbs (by omega)
    rw [List.length_cons, Lib.decDigits_length]; omega
  · have := nDigits_le 19 n.toNat (by omega)
    rw [Lib.decDigits_length]; omega
theorem itoa_len21 {n : Int} (h : IOk .i64 n) : (Lib.itoa n).length ≤ 21 := by
  have e1 : IntKind.i64.min = -9223372036854775808 := by decide
  have e2 : IntKind.i64.max = 9223372036854775807 := by decide
  exact itoa_le (by have := h.1; omega) (by have := h.2; omega)
theorem itoa_all {n : Int} (h0 : -9223372036854775808 ≤ n) (h1 : n ≤ 9223372036854775807) : Fnc Tryz.prog 128 [.int .i64 n] (.str (Lib.itoa n)) := by
  intro c
  refine con_below (res := .str (Lib.itoa n)) (fun G w vs hc I hs hr => ?_) ⟨rfl, rfl⟩
  obtain ⟨v0, rfl⟩ : ∃ v0, vs = #[v0] := by
    match vs, hs with
    | ⟨[a]⟩, _ => exact ⟨a, rfl⟩
  have h2 := hr 0 _ rfl
  simp at h2
  cases h2
  have hl := itoa_le h0 h1
  refine (Tryz.strconv_Itoa n (by omega) h1 w (pow_tab I)).mono fun e w' ⟨h1, k, os, h2⟩ => ⟨_, h1, ?_, .str (by simp) (by unfold mx; omega)⟩
  subst h2
  refine ⟨rfl, rfl, rfl, ?_, fun j hj => ?_⟩
  · show w.heap.size ≤ (w.heap ++ os).size
    simp
  · show (w.heap ++ os)[j]? = w.heap[j]?
    exact Array.getElem?_append_left hj
/-- A text that is a number's own, within bounds. -/
def pwOk (l : List UInt8) (lo hi : Int) : Bool := decide (l.length ≤ 20) && atoiE l && decide (Lib.itoa (atoiN l) = l) && decide (lo ≤ atoiN l) && decide (atoiN l ≤ hi)
theorem pw_fn {l : List UInt8} {lo hi : Int} (hl : l.length ≤ 1048576) : Fnc Tryz.prog 112 [.str l, .int .i64 lo, .int .i64 hi] (.tup [.int .i64 (if pwOk l lo hi then atoiN l else 0), .bool (pwOk l lo hi)]) := by
  refine fn_of c112 (by simp [F112]) fun c => ?_
  unfold F112
  by_cases h1 : l.length ≤ 20
  rotate_left
  · have k1 : (20 : Int) < l.length := by omega
    simp [k1]
    exact fin_plain ⟨by simp [pwOk, h1], rfl⟩
  have k1 : ¬ ((20 : Int) < l.length) := by omega
  simp [k1]
  refine call_fn0 (atoi_fn hl) (.tup (by intro j a hj; match j, hj with | 0, hj => cases hj; exact .int | 1, hj => cases hj; exact .ifc)) fun _ _ => ?_
  cases h2 : atoiE l
  · simp
    exact fin_plain ⟨by simp [pwOk, h2], rfl⟩
  simp
  obtain ⟨b0, b1⟩ := atoi_bnd l
  refine call_fn0 (itoa_all b0 b1) .str fun _ _ => ?_
  by_cases h3 : Lib.itoa (atoiN l) = l
  rotate_left
  · simp [h3]
    exact fin_plain ⟨by simp [pwOk, h3], rfl⟩
  by_cases h4 : lo ≤ atoiN l
  rotate_left
  · have k4 : atoiN l < lo := by omega
    simp [h3, k4]
    exact fin_plain ⟨by simp [pwOk, h4], rfl⟩
  have k4 : ¬ (atoiN l < lo) := by omega
  by_cases h5 : atoiN l ≤ hi
  rotate_left
  · have k5 : hi < atoiN l := by omega
    simp [h3, k4, k5]
    exact fin_plain ⟨by simp [pwOk, h5], rfl⟩
  have k5 : ¬ (hi < atoiN l) := by omega
  simp [h3, k4, k5]
  exact fin_plain ⟨by simp [pwOk, h1, h2, h3, h4, h5], rfl⟩
end A
end Go.Proofs.YtmhmaokbicgmbaaGreatDoor

/-
  Ranges, and what is asked of all elements. No condition.
-/


namespace Go.Proofs.YtmhmaokbicgmbaaGreatDoor
namespace A
set_option linter.unusedVariables false
set_option linter.unusedSimpArgs false
set_option maxRecDepth 100000

def inR (x lo hi : Int) : Bool := decide (lo ≤ x) && decide (x ≤ hi)

theorem l1In_fn (x lo hi : Int) : Fnc Tryz.prog 85 [.int .i64 x, .int .i64 lo, .int .i64 hi] (.bool (inR x lo hi)) := by
  refine fn_of c85 (by simp [F85]) fun c => ?_
  unfold F85 inR
  by_cases h1 : lo ≤ x <;> simp [h1] <;> exact fin_plain ⟨rfl, rfl⟩
theorem inRange_fn (x lo hi : Int) : Fnc Tryz.prog 76 [.int .i64 x, .int .i64 lo, .int .i64 hi] (.bool (inR x lo hi)) := by
  refine fn_of c76 (by simp [F76]) fun c => ?_
  unfold F76 inR
  by_cases h1 : lo ≤ x <;> simp [h1] <;> exact fin_plain ⟨rfl, rfl⟩
theorem inR_true {x lo hi : Int} (h : inR x lo hi = true) : lo ≤ x ∧ x ≤ hi := by simpa [inR] using h

theorem all_step {α : Type} {p : α → Bool} {l : List α} {i : Nat} (h : (l.take i).all p = true) (hi : i < l.length) (hx : p l[i] = true) : (l.take (i + 1)).all p = true := by
  rw [List.take_succ_eq_append_getElem hi, List.all_append, h]; simp [hx]
end A
end Go.Proofs.YtmhmaokbicgmbaaGreatDoor

/-
  Letters and digits, of the reference and of the program. No condition.
-/

namespace Go.Proofs.YtmhmaokbicgmbaaGreatDoor
namespace A
set_option linter.unusedVariables false
set_option linter.unusedSimpArgs false
set_option maxRecDepth 100000

def isL (b : UInt8) : Bool := inR b.toNat 97 122 || inR b.toNat 65 90 || decide (b.toNat = 95)
def isD (b : UInt8) : Bool := inR b.toNat 48 57
theorem wrap_b (b : UInt8) : IntKind.i64.wrap (b.toNat : Int) = b.toNat := by
  have := b.toNat_lt
  exact wrap64 (by omega) (by omega)
theorem letter_fn (b : UInt8) : Fnc Tryz.prog 125 [.int .u8 b.toNat] (.bool (isL b)) := by
  refine fn_of c125 (by simp [F125]) fun c => ?_
  unfold F125
  simp [wrap_b]
  refine call_fn0 (l1In_fn _ _ _) .bool fun _ _ => ?_
  cases h1 : inR b.toNat 97 122 <;> simp [wrap_b]
  · refine call_fn0 (l1In_fn _ _ _) .bool fun _ _ => ?_
    cases h2 : inR b.toNat 65 90 <;> simp
    · exact fin_plain ⟨by simp [isL, h1, h2]; omega, rfl⟩
    · exact fin_plain ⟨by simp [isL, h1, h2], rfl⟩
  · exact fin_plain ⟨by simp [isL, h1], rfl⟩
theorem digit_fn (b : UInt8) : Fnc Tryz.prog 126 [.int .u8 b.toNat] (.bool (isD b)) := by
  refine fn_of c126 (by simp [F126]) fun c => ?_
  unfold F126
  simp [wrap_b]
  refine call_fn0 (l1In_fn _ _ _) .bool fun _ _ => ?_
  simp
  exact fin_plain ⟨rfl, rfl⟩
def isA (b : UInt8) : Bool := inR b.toNat 65 90 || inR b.toNat 97 122
theorem isLetter_fn (b : UInt8) : Fnc Tryz.prog 106 [.int .u8 b.toNat] (.bool (isA b)) := by
  refine fn_of c106 (by simp [F106]) fun c => ?_
  unfold F106 isA inR
  by_cases h1 : (65 : Int) ≤ b.toNat <;> by_cases h2 : (b.toNat : Int) ≤ 90 <;> by_cases h3 : (97 : Int) ≤ b.toNat <;> simp [h1, h2, h3] <;> exact fin_plain (by simp)
theorem isDigit_fn (b : UInt8) : Fnc Tryz.prog 107 [.int .u8 b.toNat] (.bool (isD b)) := by
  refine fn_of c107 (by simp [F107]) fun c => ?_
  unfold F107 isD inR
  by_cases h1 : (48 : Int) ≤ b.toNat <;> simp [h1] <;> exact fin_plain (by simp)
theorem isL_A (b : UInt8) : isL b = (isA b || decide (b.toNat = 95)) := by
  simp [isL, isA, Bool.or_comm (inR b.toNat 97 122)]
end A
end Go.Proofs.YtmhmaokbicgmbaaGreatDoor

/-
  ParseSigned and TextKey of the program and of the reference. No condition.
-/




namespace Go.Proofs.YtmhmaokbicgmbaaGreatDoor
namespace A
set_option linter.unusedVariables false
set_option linter.unusedSimpArgs false
set_option maxRecDepth 100000

theorem inR_dgt (b : UInt8) : inR b.toNat 48 57 = dgt b := by
  unfold inR dgt
  congr 1 <;> exact decide_eq_decide.2 (by omega)
theorem specInt_all {l : List UInt8} (hl : l.length ≤ mx) : Fnc Tryz.prog 87 [.str l] (.tup [.int .i64 (if pn13 l then (dvl l 0 : Int) else 0), .bool (pn13 l)]) := by
  refine fn_of c87 (by simp [F87]) fun c => ?_
  unfold F87
  simp
  refine call_fn0 (l1In_fn _ _ _) .bool fun _ _ => ?_
  cases hin : inR l.length 1 13
  · have : pn13 l = false := by
      have h : ¬ (1 ≤ l.length ∧ l.length ≤ 13) := fun ⟨h1, h2⟩ => by
        have : inR l.length 1 13 = true := by simp [inR]; omega
        rw [hin] at this; cases this
      unfold pn13
      simp; omega
    simp
    exact fin_plain ⟨by simp [this], rfl⟩
  have hlen : 1 ≤ l.length ∧ l.length ≤ 13 := by have := inR_true hin; omega
  simp
  refine loop_drop l.length (fun i e H c' => e 0 = .str l ∧ e 4 = .int .i64 (dvl (l.take i) 0) ∧ e 5 = .int .i64 i ∧ (l.take i).all dgt = true ∧ H = []) ⟨rfl, by simp [upd, dvl], rfl, by simp, rfl⟩ ?_
  intro i e H c' hi ⟨e0, e4, e5, hall, hH⟩ N hN
  subst hH
  have hbd := dvl_le (l.take i) 0 hall
  have hbd2 : dvl (l.take i) 0 < 10000000000000 := by
    have : 10 ^ (l.take i).length ≤ 10 ^ 13 := Nat.pow_le_pow_right (by omega) (by simp; omega)
    omega
  by_cases h : i < l.length
  · have hx : l[i]? = some l[i] := List.getElem?_eq_getElem (by omega)
    have htk : l.take (i + 1) = l.take i ++ [l[i]] := List.take_succ_eq_append_getElem (by omega)
    generalize l[i] = b at hx htk
    have hstep : IntKind.i64.wrap ((i : Int) + 1) = ((i + 1 : Nat) : Int) := by rw [wrap64 (by omega) (by omega)]; rfl
    have hbl := b.toNat_lt
    simp [e0, e4, e5, h, getW_of hx, wrap_b]
    refine call_fn0 (l1In_fn _ _ _) .bool fun _ _ => ?_
    have bad : dgt b = false → pn13 l = false := fun hb => by
      have : l.all dgt = false := by
        rw [List.all_eq_false]
        exact ⟨b, List.mem_of_getElem? hx, by simp [hb]⟩
      unfold pn13; rw [this]; simp
    rw [inR_dgt]
    cases hb : dgt b
    · simp [e0, e4, e5]
      have := bad hb
      exact fin_plain ⟨by simp [this], rfl⟩
    have hb' := hb
    simp only [dgt, Bool.and_eq_true, decide_eq_true_eq] at hb'
    generalize hD : dvl (l.take i) 0 = D at e4 hbd2
    have hw1 : IntKind.i64.wrap (10 * (D : Int)) = ((10 * D : Nat) : Int) := by rw [wrap64 (by omega) (by omega)]; omega
    have hw2 : IntKind.u8.wrap ((b.toNat : Int) - 48) = ((b.toNat - 48 : Nat) : Int) := by rw [IntKind.wrap_u8]; omega
    have hw3 : IntKind.i64.wrap ((b.toNat - 48 : Nat) : Int) = ((b.toNat - 48 : Nat) : Int) := wrap64 (by omega) (by omega)
    have hw4 : IntKind.i64.wrap (((10 * D : Nat) : Int) + ((b.toNat - 48 : Nat) : Int)) = ((10 * D + (b.toNat - 48) : Nat) : Int) := by rw [wrap64 (by omega) (by omega)]; omega
    simp [e0, e4, e5, h, getW_of hx, hw1, hw2, hw3, hw4, hstep, -Int.natCast_add, -Int.natCast_mul]
    exact hN _ _ _ _ h (List.Sublist.refl _) ⟨by simp [upd, e0], by simp [upd, htk, dvl_app, hD, dvl, -Int.natCast_add, -Int.natCast_mul], by simp [upd, -Int.natCast_add], by rw [htk, List.all_append, hall]; simp [hb], rfl⟩
  · have hie : i = l.length := by omega
    subst hie
    rw [List.take_length] at e4 hall hbd2
    by_cases hk : dvl l 0 ≤ 1000000000000
    rotate_left
    · have hk' : (1000000000000 : Int) < (dvl l 0 : Int) := by omega
      have : pn13 l = false := by unfold pn13; simp [hk]
      simp [e0, e4, e5, hk']
      exact fin_plain ⟨by simp [this], rfl⟩
    have hk' : ¬ ((1000000000000 : Int) < (dvl l 0 : Int)) := by omega
    simp [e0, e4, e5, hk']
    refine call_fn0 (specFmt_fn (n := dvl l 0) (by omega)) .str fun _ _ => ?_
    by_cases hf : Lib.decDigits (dvl l 0) = l
    · have : pn13 l = true := by unfold pn13; simp [hall, hf, hk, hlen.2]; omega
      simp [e0, e4, e5, hf]
      exact fin_plain ⟨by simp [this], rfl⟩
    · have : pn13 l = false := by unfold pn13; simp [hf]
      simp [e0, e4, e5, hf]
      exact fin_plain ⟨by simp [this], rfl⟩
theorem free_ib (n : Int) (b : Bool) {T : List Nat} : Av T (.tup [.int .i64 n, .bool b]) := .tup fun j a hj => by
  match j, hj with
  | 0, hj => cases hj; exact .int
  | 1, hj => cases hj; exact .bool
theorem specSigned_fn {l : List UInt8} (hl : l.length ≤ mx) : Fnc Tryz.prog 53 [.str l] (.tup [.int .i64 ((sgS l).getD 0), .bool (sgS l).isSome]) := by
  refine fn_of c53 (by simp [F53]) fun c => ?_
  unfold F53
  have go : ∀ b : Bool, sgNeg l = b → (b = true → ∃ r, l = 45 :: r) → (b = false → sgBody l = l) := fun b h1 h2 h3 => by subst h3; unfold sgBody; rw [h1]; rfl
  cases hl0 : l with
  | nil =>
    subst hl0
    have hn : sgS [] = none := by decide
    simp
    refine call_fn0 (specInt_all (l := []) (by decide)) (free_ib _ _) fun _ _ => ?_
    have : pn13 [] = false := by decide
    simp [this]
    exact fin_plain ⟨by rw [hn]; rfl, rfl⟩
  | cons b r =>
    subst hl0
    have hpos : (0 : Int) < ((r.length : Int) + 1) := by omega
    have hrl : r.length ≤ mx := by simp at hl; omega
    have hb255 := b.toNat_lt
    by_cases hb : b = 45
    · subst hb
      have e1 : sgNeg (45 :: r) = true := rfl
      have e2 : sgBody (45 :: r) = r := rfl
      have hS : sgS (45 :: r) = if pn13 r && decide (dvl r 0 ≤ 1000000000) && !decide (dvl r 0 = 0) then some (-(dvl r 0 : Int)) else none := by
        unfold sgS; rw [e1, e2]; simp
      simp [hpos]
      refine call_fn0 (specInt_all hrl) (free_ib _ _) fun _ _ => ?_
      cases hp : pn13 r
      · rw [hp] at hS
        simp
        exact fin_plain ⟨by rw [hS]; rfl, rfl⟩
      rw [hp] at hS
      by_cases h2 : dvl r 0 ≤ 1000000000
      rotate_left
      · have k2 : (1000000000 : Int) < (dvl r 0 : Int) := by omega
        simp [k2]
        exact fin_plain ⟨by rw [hS]; simp [h2], rfl⟩
      have k2 : ¬ ((1000000000 : Int) < (dvl r 0 : Int)) := by omega
      by_cases h3 : dvl r 0 = 0
      · simp [k2, h3]
        exact fin_plain ⟨by rw [hS]; simp [h3], rfl⟩
      have hw : IntKind.i64.wrap (-(dvl r 0 : Int)) = -(dvl r 0 : Int) := wrap64 (by omega) (by omega)
      simp [k2, h3, hw]
      exact fin_plain ⟨by rw [hS]; simp [h2, h3], rfl⟩
    · have hbn : ¬ (b.toNat : Int) = 45 := fun h => hb (UInt8.toNat_inj.1 (by rw [show (45 : UInt8).toNat = 45 from rfl]; omega))
      have e1 : sgNeg (b :: r) = false := by unfold sgNeg; simp [hb]
      have e2 : sgBody (b :: r) = b :: r := by unfold sgBody; rw [e1]; rfl
      have hS : sgS (b :: r) = if pn13 (b :: r) && decide (dvl (b :: r) 0 ≤ 1000000000) then some (dvl (b :: r) 0 : Int) else none := by
        unfold sgS; rw [e1, e2]; simp
      simp [hpos, hbn]
      refine call_fn0 (specInt_all (l := b :: r) hl) (free_ib _ _) fun _ _ => ?_
      generalize b :: r = l at hS ⊢
      cases hp : pn13 l
      · rw [hp] at hS
        simp
        exact fin_plain ⟨by rw [hS]; rfl, rfl⟩
      rw [hp] at hS
      by_cases h2 : dvl l 0 ≤ 1000000000
      rotate_left
      · have k2 : (1000000000 : Int) < (dvl l 0 : Int) := by omega
        simp [k2, hbn]
        exact fin_plain ⟨by rw [hS]; simp [h2], rfl⟩
      have k2 : ¬ ((1000000000 : Int) < (dvl l 0 : Int)) := by omega
      simp [k2, hbn]
      exact fin_plain ⟨by rw [hS]; simp [h2], rfl⟩
/-- The program reads the same numbers. -/
theorem pw_sg (l : List UInt8) : (if pwOk l (-1000000000) 1000000000 then atoiN l else 0) = (sgS l).getD 0 ∧ pwOk l (-1000000000) 1000000000 = (sgS l).isSome := by
  have key : ∀ n, (pwOk l (-1000000000) 1000000000 = true ∧ atoiN l = n) ↔ sgS l = some n := fun n => by
    rw [sgS_iff]
    constructor
    · rintro ⟨h, rfl⟩
      simp only [pwOk, Bool.and_eq_true, decide_eq_true_eq] at h
      exact ⟨h.1.1.2, h.1.2, h.2⟩
    · rintro ⟨rfl, h0, h1⟩
      have ha := atoi_itoa (n := n) (by omega) (by omega)
      have hn : atoiN (Lib.itoa n) = n := by unfold atoiN; rw [ha]
      have he : atoiE (Lib.itoa n) = true := by unfold atoiE; rw [ha]
      have hlen : (Lib.itoa n).length ≤ 20 := by
        unfold Lib.itoa
        split
        · have := dd_len (m := n.natAbs) (k := 13) (by omega) (by omega); rw [List.length_cons]; omega
        · have := dd_len (m := n.toNat) (k := 13) (by omega) (by omega); omega
      exact ⟨by unfold pwOk; rw [hn, he]; simp [hlen, h0, h1], hn⟩
  cases hs : sgS l with
  | some n =>
    obtain ⟨h1, h2⟩ := (key n).2 hs
    rw [h1, h2]; exact ⟨rfl, rfl⟩
  | none =>
    cases hp : pwOk l (-1000000000) 1000000000 with
    | false => exact ⟨rfl, rfl⟩
    | true =>
      have := (key _).1 ⟨hp, rfl⟩
      rw [hs] at this; cases this
theorem implSigned_fn {l : List UInt8} (hl : l.length ≤ 1048576) : Fnc Tryz.prog 91 [.str l] (.tup [.int .i64 ((sgS l).getD 0), .bool (sgS l).isSome]) := by
  obtain ⟨h1, h2⟩ := pw_sg l
  refine fn_of c91 (by simp [F91]) fun c => ?_
  unfold F91
  simp
  refine call_fn0 (pw_fn hl) (free_ib _ _) fun _ _ => ?_
  rw [h1, h2]
  simp
  exact fin_plain ⟨rfl, rfl⟩
theorem implKey_fn {l : List UInt8} (hl : l.length ≤ 1048576) : Fnc Tryz.prog 63 [.str l] (.agg (tKey l).enc) := by
  refine fn_of c63 (by simp [F63]) fun c => ?_
  unfold F63
  simp
  refine call_fn0 (implSigned_fn hl) (free_ib _ _) fun _ _ => ?_
  unfold tKey
  cases hs : sgS l with
  | none =>
    simp [putA]
    exact fin_plain ⟨rfl, rfl⟩
  | some n =>
    simp [putA]
    refine call_fn0 (res := .agg [.bool false, .int .i64 n, .str []]) ?_ (.agg fun j a hj => by
      match j, hj with
      | 0, hj => cases hj; exact .bool
      | 1, hj => cases hj; exact .int
      | 2, hj => cases hj; exact .str) fun _ _ => ?_
    · refine fn_of c92 (by simp [F92]) fun c => ?_
      unfold F92
      simp [putA]
      exact fin_plain ⟨rfl, rfl⟩
    · simp [putA]
      exact fin_plain ⟨rfl, rfl⟩
theorem specKey_fn {l : List UInt8} (hl : l.length ≤ mx) : Fnc Tryz.prog 26 [.str l] (.agg (tKey l).enc) := by
  refine fn_of c26 (by simp [F26]) fun c => ?_
  unfold F26
  simp
  refine call_fn0 (specSigned_fn hl) (free_ib _ _) fun _ _ => ?_
  unfold tKey
  cases hs : sgS l with
  | none =>
    simp [putA]
    exact fin_plain ⟨rfl, rfl⟩
  | some n =>
    simp [putA]
    exact fin_plain ⟨rfl, rfl⟩
end A
end Go.Proofs.YtmhmaokbicgmbaaGreatDoor

/-
  Cutting a text at another: plain laws. No condition.
-/


namespace Go.Proofs.YtmhmaokbicgmbaaGreatDoor
namespace A
set_option linter.unusedVariables false
set_option linter.unusedSimpArgs false

theorem split_miss {s sep : List UInt8} (h : Lib.index s sep = -1) : Lib.split s sep = [s] := by
  unfold Lib.split; rw [Lib.count_miss h]; rfl
theorem split_hit {s sep : List UInt8} {i : Nat} (hs : sep ≠ []) (h : Lib.index s sep = i) : Lib.split s sep = s.take i :: Lib.split (s.drop (i + sep.length)) sep := by
  have hm : ¬ (Lib.index s sep == -1) = true := fun e => by have := beq_iff_eq.1 e; omega
  have e : (Lib.index s sep).toNat = i := by omega
  unfold Lib.split
  rw [Lib.count_hit hs h, Nat.add_comm, Lib.splitK, if_neg hm, e]
  rfl
theorem occ_drop (l sep : List UInt8) (a j : Nat) : Lib.occAt (l.drop a) sep j = Lib.occAt l sep (a + j) := by
  unfold Lib.occAt; rw [List.drop_drop]
theorem drop_take' (l : List UInt8) (a i : Nat) : (l.drop a).take (i - a) = (l.take i).drop a := by
  rw [List.drop_take]
theorem index_at {l sep : List UInt8} {a i : Nat} (ha : a ≤ i) (hi : i ≤ l.length) (hno : ∀ j, a ≤ j → j < i → Lib.occAt l sep j = false) (ho : Lib.occAt l sep i = true) : Lib.index (l.drop a) sep = ((i - a : Nat) : Int) := by
  refine Lib.index_first (by simp; omega) (by rw [occ_drop, show a + (i - a) = i by omega]; exact ho) fun j hj => ?_
  rw [occ_drop]
  exact hno _ (by omega) (by omega)
theorem split_at {l sep : List UInt8} {a i : Nat} (hs : sep ≠ []) (ha : a ≤ i) (hi : i ≤ l.length) (hno : ∀ j, a ≤ j → j < i → Lib.occAt l sep j = false) (ho : Lib.occAt l sep i = true) :
    Lib.split (l.drop a) sep = (l.take i).drop a :: Lib.split (l.drop (i + sep.length)) sep := by
  rw [split_hit hs (index_at ha hi hno ho), drop_take', List.drop_drop, show a + (i - a + sep.length) = i + sep.length by omega]
theorem occ_end {l sep : List UInt8} (hs : sep ≠ []) {i : Nat} (hi : l.length ≤ i) : Lib.occAt l sep i = false := by
  cases h : Lib.occAt l sep i
  · rfl
  · have := Lib.occAt_room h
    have h2 : sep.length ≠ 0 := fun e => hs (List.length_eq_zero_iff.1 e)
    rcases this with h1 | h1
    · omega
    · exact absurd h1 hs
theorem index_no {l sep : List UInt8} {a : Nat} (hs : sep ≠ []) (hno : ∀ j, a ≤ j → j < l.length → Lib.occAt l sep j = false) : Lib.index (l.drop a) sep = -1 := by
  refine Lib.index_none fun j hj => ?_
  rw [occ_drop]
  rcases Nat.lt_or_ge (a + j) l.length with h | h
  · exact hno _ (by omega) h
  · exact occ_end hs h
theorem split_end {l sep : List UInt8} {a : Nat} (hs : sep ≠ []) (hno : ∀ j, a ≤ j → j < l.length → Lib.occAt l sep j = false) : Lib.split (l.drop a) sep = [l.drop a] := split_miss (index_no hs hno)
theorem occ_room {l sep : List UInt8} (hs : sep ≠ []) {i : Nat} (h : Lib.occAt l sep i = true) : i + sep.length ≤ l.length := (Lib.occAt_room h).resolve_right hs

/-- where a byte stands first, or the end -/
def upTo (b : UInt8) (l : List UInt8) : Nat := (l.takeWhile (fun x => !decide (x = b))).length
theorem upTo_le (b : UInt8) (l : List UInt8) : upTo b l ≤ l.length := by
  unfold upTo
  exact (List.takeWhile_sublist _).length_le
theorem upTo_eq {b : UInt8} : ∀ {l : List UInt8} {i : Nat}, i ≤ l.length → (∀ j, j < i → l[j]? ≠ some b) → (i = l.length ∨ l[i]? = some b) → upTo b l = i
  | [], i, hi, _, _ => by simp at hi; subst hi; rfl
  | x :: l, 0, _, _, h => by
    rcases h with h | h
    · simp at h
    · simp at h; subst h; simp [upTo]
  | x :: l, i + 1, hi, hn, h => by
    have h0 := hn 0 (by omega)
    simp at h0
    have ih := upTo_eq (b := b) (l := l) (i := i) (by simpa using hi) (fun j hj => by simpa using hn (j + 1) (by omega)) (by simpa using h)
    unfold upTo at ih ⊢
    simp [h0, ih]
theorem upTo_spec (b : UInt8) : ∀ (l : List UInt8), (∀ j, j < upTo b l → l[j]? ≠ some b) ∧ (upTo b l = l.length ∨ l[upTo b l]? = some b)
  | [] => by simp [upTo]
  | x :: l => by
    by_cases h : x = b
    · subst h; simp [upTo]
    · obtain ⟨h1, h2⟩ := upTo_spec b l
      have e : upTo b (x :: l) = upTo b l + 1 := by simp [upTo, h]
      rw [e]
      refine ⟨fun j hj => ?_, by simpa using h2⟩
      cases j with
      | zero => simpa using h
      | succ j => simpa using h1 j (by omega)
theorem occ_one (l : List UInt8) (b : UInt8) (i : Nat) : Lib.occAt l [b] i = decide (l[i]? = some b) := by
  unfold Lib.occAt
  cases h : l.drop i with
  | nil =>
    have : l[i]? = none := by
      rw [List.getElem?_eq_none_iff]
      have := List.drop_eq_nil_iff.1 h
      exact this
    simp [this]
  | cons x r =>
    have : l[i]? = some x := by
      have h2 : (l.drop i)[0]? = some x := by rw [h]; rfl
      simpa using h2
    rw [this]
    simp only [List.isPrefixOf, Bool.and_true, Option.some.injEq]
    by_cases hx : b = x
    · subst hx; simp
    · have : ¬ x = b := fun e => hx e.symm
      simp [hx, this]
theorem cut_one (b : UInt8) (l : List UInt8) : (Lib.cut l [b]).1 = l.take (upTo b l) ∧ (Lib.cut l [b]).2.1 = l.drop (upTo b l + 1) := by
  obtain ⟨h1, h2⟩ := upTo_spec b l
  unfold Lib.cut
  rcases h2 with h2 | h2
  · have : Lib.index l [b] = -1 := Lib.index_none fun j hj => by
      rw [occ_one]
      rcases Nat.lt_or_ge j l.length with h | h
      · simpa using h1 j (by omega)
      · simp [h]
    rw [this, if_neg (by omega), h2]
    simp
  · have : Lib.index l [b] = upTo b l := Lib.index_first (upTo_le b l) (by rw [occ_one]; simpa using h2) fun j hj => by rw [occ_one]; simpa using h1 j hj
    rw [this, if_pos (by omega)]
    simp
end A
end Go.Proofs.YtmhmaokbicgmbaaGreatDoor

/-
  Library functions on strings as0 functions of the small language. No condition.
-/



namespace Go.Proofs.YtmhmaokbicgmbaaGreatDoor
namespace A
set_option linter.unusedVariables false
set_option linter.unusedSimpArgs false
set_option maxRecDepth 100000
open Go.RowKit

theorem max_cell {G : Gh} {H : List AObj} {w : World} (I : Inv G H w.heap) : ∃ m, w.cell? ⟨0, 0, none⟩ = some (.int .i64 m) := by
  obtain ⟨_, _, hm, hg⟩ := I.gl 0 (by decide)
  obtain ⟨c, t, fr, m, ho, hc⟩ := gl_max hg
  exact ⟨m, by unfold World.cell?; simp only [ho]; exact hc⟩
theorem below_drew {w : World} : ∀ n, Below w.heap.size w (w.drewN n)
  | 0 => Below.refl _ _
  | n + 1 => by
    have := below_drew (w := w) n
    unfold World.drewN
    exact ⟨this.os, this.tape, this.output, this.size, this.block⟩
theorem cut_fn {l sep : List UInt8} (hl : l.length < 4294967281) : Fnc Tryz.prog 40 [.str l, .str sep] (.tup [.str (Lib.cut l sep).1, .str (Lib.cut l sep).2.1, .bool (Lib.cut l sep).2.2]) := by
  intro c
  refine con_below (res := .tup [.str (Lib.cut l sep).1, .str (Lib.cut l sep).2.1, .bool (Lib.cut l sep).2.2]) (fun G w vs hc I hs hr => ?_) ⟨rfl, rfl⟩
  obtain ⟨v0, v1, rfl⟩ : ∃ v0 v1, vs = #[v0, v1] := by
    match vs, hs with
    | ⟨[a, b]⟩, _ => exact ⟨a, b, rfl⟩
  have h0 := hr 0 _ rfl
  have h1 := hr 1 _ rfl
  simp at h0 h1
  obtain ⟨m, hm⟩ := max_cell I
  cases h0 with
  | @str s _ e hl0 =>
  cases h1 with
  | @str t _ e1 hl1 =>
  have hsz : s.size < 4294967281 := by rw [Lib.size_eq, e]; exact hl
  have key := Tryz.strings_Cut s t m w hsz hm
  rw [e, e1] at key
  have hle : (Lib.cut l sep).1.length ≤ l.length ∧ (Lib.cut l sep).2.1.length ≤ l.length := by
    unfold Lib.cut; split <;> simp
    omega
  refine key.mono fun e w' ⟨h1, n, h2⟩ => ⟨_, h1, h2 ▸ below_drew n, ?_⟩
  refine .tup rfl fun j a hj => ?_
  match j, hj with
  | 0, hj => cases hj; exact .str (by simp) (by unfold mx; omega)
  | 1, hj => cases hj; exact .str (by simp) (by unfold mx; omega)
  | 2, hj => cases hj; exact .bool
theorem split_con {l sep : List UInt8} (hl : l.length < 4294967281) (hs : sep ≠ []) (c : Nat) :
    Con Tryz.prog 78 [.str l, .str sep] [] c fun r O _ => r = .ref 0 c 1 (Lib.split l sep).length ∧ O = [⟨false, c, 1, (Lib.split l sep).map encS⟩] := by
  intro G w vs hc I hsz hr
  subst hc
  obtain ⟨v0, v1, rfl⟩ : ∃ v0 v1, vs = #[v0, v1] := by
    match vs, hsz with
    | ⟨[a, b]⟩, _ => exact ⟨a, b, rfl⟩
  have h0 := hr 0 _ rfl
  have h1 := hr 1 _ rfl
  simp at h0 h1
  obtain ⟨m, hm⟩ := max_cell I
  cases h0 with
  | @str s _ e hl0 =>
  cases h1 with
  | @str t _ e1 hl1 =>
  have hsl : s.size = l.length := by rw [Lib.size_eq, e]
  have hsz : s.size < 4294967281 := by omega
  have hts : 1 ≤ t.size := by
    rw [Lib.size_eq, e1]
    exact Nat.one_le_iff_ne_zero.2 fun h => hs (List.length_eq_zero_iff.1 h)
  have key := Tryz.strings_Split s t m w hsz hm hts
  have hdat : (Lib.splitB t 0 (Lib.countB s t) s).map (·.data.toList) = Lib.split l sep := by
    rw [Lib.splitB_data, e, e1]
    show _ = Lib.splitK sep 0 (Lib.count l sep) l
    unfold Lib.countB
    rw [e, e1]
  have hlen : (Lib.splitB t 0 (Lib.countB s t) s).length = Lib.countB s t + 1 := Lib.splitB_all t hts 0 _ s rfl
  have hlen2 : (Lib.split l sep).length = Lib.countB s t + 1 := by rw [← hlen, ← hdat, List.length_map]
  have hcle : Lib.countB s t + 1 ≤ s.size + 2 := by
    have := Lib.count_le s.data.toList t.data.toList
    rw [← Lib.size_eq] at this
    show Lib.count _ _ + 1 ≤ _
    omega
  generalize hps : Lib.splitB t 0 (Lib.countB s t) s = ps at key hdat hlen
  have hsmall : ∀ x, x ∈ Lib.split l sep → x.length ≤ mx := by
    have : ∀ (k : Nat) (l : List UInt8), ∀ x, x ∈ Lib.splitK sep 0 k l → x.length ≤ l.length := by
      intro k
      induction k with
      | zero => intro l x hx; simp [Lib.splitK] at hx; rw [hx]; exact Nat.le_refl _
      | succ k ih =>
        intro l x hx
        unfold Lib.splitK at hx
        split at hx
        · simp at hx; rw [hx]; exact Nat.le_refl _
        · rcases List.mem_cons.1 hx with rfl | hx
          · simp; omega
          · have := ih _ x hx; simp at this; omega
    intro x hx
    have := this _ _ x hx
    unfold mx; omega
  have hget : ∀ (r : Nat) (x : List UInt8), (Lib.split l sep)[r]? = some x → ∃ y : ByteArray, ps[r]? = some y ∧ y.data.toList = x := fun r x h => by
    rw [← hdat, List.getElem?_map, Option.map_eq_some_iff] at h
    exact h
  obtain ⟨x, I'⟩ := newObj_good I (cs := (ps.map Value.string).toArray) (e := 9) (wd := 1) (rows := (Lib.split l sep).map encS) (by simp [hlen, hlen2]) (by simp; unfold mx; omega)
    (fun r row h => by
      rw [List.getElem?_map, Option.map_eq_some_iff] at h
      obtain ⟨y, _, rfl⟩ := h; rfl)
    (fun r j row a h ha => by
      rw [List.getElem?_map, Option.map_eq_some_iff] at h
      obtain ⟨y, hy, rfl⟩ := h
      obtain ⟨z, hz, e2⟩ := hget r y hy
      match j, ha with
      | 0, ha =>
        simp [encS] at ha
        subst ha
        refine ⟨.string z, by simp [hz], rfl, .str e2 (hsmall _ (List.mem_of_getElem? hy))⟩)
    (0, 0) (fun _ _ h => by omega)
  refine key.mono fun e w' ⟨he, hw⟩ => ?_
  subst hw
  refine ⟨_, .ref 0 G.c 1 (Lib.split l sep).length, _, _, he, ⟨rfl, rfl⟩, x, I', ?_⟩
  have hm' : (G.new w.heap.size).m G.c = w.heap.size := by simp [Gh.new]
  have hb : (w.alloc (.cells (ps.map Value.string).toArray 9)).heap[(G.new w.heap.size).m G.c]? = some (.cells (ps.map Value.string).toArray 9 (0, 0)) := by rw [hm']; show (w.heap.push _)[w.heap.size]? = _; simp
  have hR := Rep.ref (G := G.new w.heap.size) (i := 0) (tag := G.c) (w := 1) (len := Lib.countB s t + 1) (cap := Lib.countB s t + 1) (by simp [Gh.new]) hb (by simp; omega) (Nat.le_refl _) (by unfold mx; omega)
  rw [hm'] at hR
  rw [hlen2]; exact hR
theorem encS_flat : Flat encS := fun x a ha => by
  simp [encS] at ha
  subst ha; exact ⟨rfl, free_str _⟩
theorem split_tr {l sep : List UInt8} (hl : l.length < 4294967281) (hs : sep ≠ []) :
    Tr Tryz.prog 78 [.str l, .str sep] fun _ r => ∃ b : SL (List UInt8), r = b.av 1 encS ∧ b.list = Lib.split l sep :=
  flat_tr encS_flat fun c => (split_con hl hs c).mono fun r O c' _ ⟨h1, h2⟩ => ⟨.mk c (Lib.split l sep), h1, by rw [h2, flat_wood], rfl⟩
theorem splitK_len (sep : List UInt8) : ∀ (k : Nat) (l : List UInt8), (Lib.splitK sep 0 k l).length ≤ k + 1 ∧ ∀ x, x ∈ Lib.splitK sep 0 k l → x.length ≤ l.length := by
  intro k
  induction k with
  | zero => intro l; refine ⟨by simp [Lib.splitK], fun x hx => ?_⟩; simp [Lib.splitK] at hx; rw [hx]; exact Nat.le_refl _
  | succ k ih =>
    intro l
    unfold Lib.splitK
    split
    · exact ⟨by simp, fun x hx => by simp at hx; rw [hx]; exact Nat.le_refl _⟩
    · refine ⟨by have := (ih (l.drop ((Lib.index l sep).toNat + sep.length))).1; simp; omega, fun x hx => ?_⟩
      rcases List.mem_cons.1 hx with rfl | hx
      · simp; omega
      · have := (ih _).2 x hx; simp at this; omega
theorem split_len (l sep : List UInt8) : (Lib.split l sep).length ≤ l.length + 2 := by
  have h1 := (splitK_len sep (Lib.count l sep) l).1
  have h2 := Lib.count_le l sep
  unfold Lib.split; omega
theorem split_mem {l sep x : List UInt8} (hx : x ∈ Lib.split l sep) : x.length ≤ l.length := (splitK_len sep _ l).2 x hx
end A
end Go.Proofs.YtmhmaokbicgmbaaGreatDoor

/-
  strings.Join as0 a function of the small language. No condition.
-/



namespace Go.Proofs.YtmhmaokbicgmbaaGreatDoor
namespace A
set_option linter.unusedVariables false
set_option linter.unusedSimpArgs false
open Go.RowKit

def joinL (sep : List UInt8) (l : List (List UInt8)) : List UInt8 := Lib.join l sep
theorem joinL_nil (sep : List UInt8) : joinL sep [] = [] := rfl
theorem joinL_snoc (sep x : List UInt8) (l : List (List UInt8)) : joinL sep (l ++ [x]) = (if 0 < l.length then joinL sep l ++ sep else []) ++ x := by
  cases l with
  | nil => simp [joinL, Lib.join_one]
  | cons a l => simp [joinL, Lib.join_cons, Lib.joinTail]
theorem joinL_len {sep : List UInt8} (hs : sep.length ≤ 2) (l : List (List UInt8)) : (joinL sep l).length ≤ szL (fun x => x.length + 2) l := by
  cases l with
  | nil => simp [joinL_nil, szL]
  | cons a l =>
    have : (Lib.joinTail sep l).length ≤ szL (fun x => x.length + 2) l := by
      induction l with
      | nil => simp [Lib.joinTail, szL]
      | cons b l ih => simp [Lib.joinTail, szL] at ih ⊢; omega
    simp [joinL, Lib.join_cons, szL] at this ⊢; omega
theorem join_fn {t : Nat} {l : List (List UInt8)} {sep : List UInt8} (hl : (joinL sep l).length ≤ 140737488355328) (hn : l.length ≤ 140737488355328) :
    Fnc Tryz.prog 75 [.slc t 1 (l.map encS), .str sep] (.str (joinL sep l)) := by
  intro c
  refine con_below (res := .str (joinL sep l)) (fun G w vs hc I hs hr => ?_) ⟨rfl, rfl⟩
  obtain ⟨v0, v1, rfl⟩ : ∃ v0 v1, vs = #[v0, v1] := by
    match vs, hs with
    | ⟨[a, b]⟩, _ => exact ⟨a, b, rfl⟩
  have h0 := hr 0 _ rfl
  have h1 := hr 1 _ rfl
  simp at h0 h1
  have hres : Rep G w.heap (.string ⟨(joinL sep l).toArray⟩) (.str (joinL sep l)) := .str (by simp) (by unfold mx; omega)
  cases h1 with
  | @str s _ e hl1 =>
  generalize hrows : l.map encS = rows at h0
  cases h0 with
  | slc0 =>
    have : l = [] := by simpa using hrows
    subst this
    exact (Tryz.strings_Join_none _ _ _ _).mono fun e w' ⟨h1, h2⟩ => ⟨_, h1, h2 ▸ Below.refl _ _, hres⟩
  | @slc _ _ off cap _ f hF hc' hlen hcap hw hcell hcl hrep =>
    subst hrows
    have hx : ∀ (j : Nat) (x : List UInt8), l[j]? = some x → ∃ s : ByteArray, f j 0 = .string s ∧ s.data.toList = x := fun j x hj => by
      have h2 := hrep j 0 (encS x) (.str x) (by simp [hj]) rfl
      cases hf : f j 0 <;> rw [hf] at h2 <;> cases h2
      exact ⟨_, rfl, by assumption⟩
    have hcells : ∀ (j : Nat) (x : ByteArray), (l.map fun x => (⟨x.toArray⟩ : ByteArray))[j]? = some x → w.cell? ⟨G.m t, _ + j, none⟩ = some (.string x) := fun j x hj => by
      rw [List.getElem?_map, Option.map_eq_some_iff] at hj
      obtain ⟨y, hy, rfl⟩ := hj
      obtain ⟨s', hs', e'⟩ := hx j y hy
      have hc2 := hcell j 0 (encS y) (.str y) (by simp [hy]) rfl
      rw [cell?_eq]
      simp only [Nat.mul_one, Nat.add_zero] at hc2
      rw [hc2, hs']
      subst e'
      simp
    have key := Tryz.strings_Join _ _ _ _ s w hcells (I.fz t hF).2 (by simp; omega) (by simpa using hcap) (by simp [Function.comp_def, e]; exact hl)
    have key2 : Calls Tryz.prog 75 #[.slice (some ⟨G.m t, off, none⟩) (l.map encS).length cap, .string s] w fun e w' => e = .returned (.string ⟨(joinL sep l).toArray⟩) ∧ Below w.heap.size w w' := by
      simpa [Function.comp_def, e, joinL] using key
    exact key2.mono fun e w' ⟨h1, h2⟩ => ⟨_, h1, h2, hres⟩
theorem join_nil_fn (sep : List UInt8) : Fnc Tryz.prog 75 [.nsl, .str sep] (.str (joinL sep [])) := by
  intro c
  refine con_below (res := .str (joinL sep [])) (fun G w vs hc I hs hr => ?_) ⟨rfl, rfl⟩
  obtain ⟨v0, v1, rfl⟩ : ∃ v0 v1, vs = #[v0, v1] := by
    match vs, hs with
    | ⟨[a, b]⟩, _ => exact ⟨a, b, rfl⟩
  have h0 := hr 0 _ rfl
  have h1 := hr 1 _ rfl
  simp at h0 h1
  have hres : Rep G w.heap (.string ⟨(joinL sep []).toArray⟩) (.str (joinL sep [])) := .str (by simp) (by simp [joinL_nil])
  cases h0
  cases h1 with
  | @str s _ e hl1 =>
  exact (Tryz.strings_Join_none _ _ _ _).mono fun e w' ⟨h1, h2⟩ => ⟨_, h1, h2 ▸ Below.refl _ _, hres⟩
end A
end Go.Proofs.YtmhmaokbicgmbaaGreatDoor

/-
  Paths, brought into their plain form by the reference and by the program: the same plain function. No condition.
-/




namespace Go.Proofs.YtmhmaokbicgmbaaGreatDoor
namespace A
set_option linter.unusedVariables false
set_option linter.unusedSimpArgs false
set_option maxRecDepth 100000

/-! ### the plain function -/
def pC (b : UInt8) : Bool := isA b || isD b || decide (b.toNat = 95) || decide (b.toNat = 45) || decide (b.toNat = 46)
def pPart (l : List UInt8) : Bool := l.all pC && decide (l.length ≤ 20)
def pstep (o : List (List UInt8)) (x : List UInt8) : Option (List (List UInt8)) :=
  if x = [] ∨ x = [46] then some o else if x = [46, 46] then (if o = [] then none else some o.dropLast) else if pPart x then some (o ++ [x]) else none
def pfold : List (List UInt8) → List (List UInt8) → Option (List (List UInt8))
  | o, [] => some o
  | o, x :: r => (pstep o x).bind fun o' => pfold o' r
def splitP (l : List UInt8) : Option (List (List UInt8)) := pfold [] (Lib.split l [47])
def normP (l : List UInt8) : Option (List UInt8) := if 400 < l.length then none else (splitP l).bind fun o => if inR (joinL [47] o).length 1 60 then some (joinL [47] o) else none
def isN (l : List UInt8) : Bool := decide (normP l = some l)
theorem pstep_ok {o o' : List (List UInt8)} {x : List UInt8} (h : pstep o x = some o') (ho : ∀ y, y ∈ o → pPart y = true) : (∀ y, y ∈ o' → pPart y = true) ∧ o'.length ≤ o.length + 1 := by
  unfold pstep at h
  split at h
  · cases h; exact ⟨ho, by omega⟩
  · split at h
    · split at h
      · cases h
      · cases h; exact ⟨fun y hy => ho y ((List.dropLast_sublist o).subset hy), by simp; omega⟩
    · split at h
      · cases h
        refine ⟨fun y hy => ?_, by simp⟩
        rcases List.mem_append.1 hy with hy | hy
        · exact ho y hy
        · simp at hy; subst hy; assumption
      · cases h
theorem pfold_ok : ∀ {r o o' : List (List UInt8)}, pfold o r = some o' → (∀ y, y ∈ o → pPart y = true) → (∀ y, y ∈ o' → pPart y = true) ∧ o'.length ≤ o.length + r.length
  | [], o, o', h, ho => by simp [pfold] at h; subst h; exact ⟨ho, by simp⟩
  | x :: r, o, o', h, ho => by
    simp only [pfold] at h
    cases hp : pstep o x with
    | none => rw [hp] at h; cases h
    | some o1 =>
      rw [hp] at h
      obtain ⟨h1, h2⟩ := pstep_ok hp ho
      obtain ⟨h3, h4⟩ := pfold_ok h h1
      exact ⟨h3, by simp; omega⟩
theorem pPart_len {l : List UInt8} (h : pPart l = true) : l.length ≤ 20 := by
  simp only [pPart, Bool.and_eq_true, decide_eq_true_eq] at h; exact h.2
theorem splitP_ok {l : List UInt8} {o : List (List UInt8)} (h : splitP l = some o) : (∀ y, y ∈ o → pPart y = true) ∧ o.length ≤ l.length + 2 := by
  obtain ⟨h1, h2⟩ := pfold_ok h (by simp)
  have := split_len l [47]
  exact ⟨h1, by simp at h2; omega⟩
theorem szL_mul {α : Type} (f : α → Nat) (k : Nat) : ∀ (l : List α), (∀ x, x ∈ l → f x ≤ k) → szL f l ≤ k * l.length
  | [], _ => by simp [szL]
  | x :: l, h => by
    have := szL_mul f k l fun y hy => h y (List.mem_cons_of_mem _ hy)
    have hx := h x (List.mem_cons_self ..)
    simp [szL, Nat.mul_add] at this ⊢; omega
theorem join_short {l : List UInt8} {o : List (List UInt8)} (h : splitP l = some o) (i : Nat) : (joinL [47] (o.take i)).length ≤ 22 * (l.length + 2) := by
  obtain ⟨h1, h2⟩ := splitP_ok h
  have h3 := joinL_len (sep := [47]) (by simp) (o.take i)
  have h4 := szL_mul (fun x : List UInt8 => x.length + 2) 22 (o.take i) fun x hx => by have := pPart_len (h1 x (List.mem_of_mem_take hx)); omega
  have h5 : (o.take i).length ≤ o.length := by simp; omega
  have h6 : 22 * (o.take i).length ≤ 22 * (l.length + 2) := Nat.mul_le_mul_left _ (by omega)
  omega

/-! ### a part -/
theorem spec_part {l : List UInt8} (hl : l.length ≤ mx) : Fnc Tryz.prog 120 [.str l] (.bool (l.all pC && inR l.length 1 20)) := by
  refine fn_of c120 (by simp [F120]) fun c => ?_
  unfold F120
  simp
  refine loop_drop l.length (fun i e H c' => e 0 = .str l ∧ e 3 = .int .i64 i ∧ (l.take i).all pC = true ∧ H = []) ⟨rfl, rfl, by simp, rfl⟩ ?_
  intro i e H c hi ⟨e0, e3, ha, hH⟩ N hN
  subst hH
  by_cases h : i < l.length
  · have hb : l[i]? = some l[i] := List.getElem?_eq_getElem h
    have bad : pC l[i] = false → (l.all pC && inR l.length 1 20) = false := fun hb => by
      have : l.all pC = false := by rw [List.all_eq_false]; exact ⟨_, List.getElem_mem h, by simp [hb]⟩
      rw [this]; rfl
    have good : pC l[i] = true → (l.take (i + 1)).all pC = true := fun hx => all_step ha h hx
    have hstep : IntKind.i64.wrap ((i : Int) + 1) = ((i + 1 : Nat) : Int) := by rw [step64 hl h]; rfl
    generalize l[i] = b at hb bad good
    have hLA := isL_A b
    have hpc : pC b = (isL b || isD b || decide (b.toNat = 45) || decide (b.toNat = 46)) := by
      rw [hLA]; unfold pC; cases isA b <;> cases isD b <;> cases decide (b.toNat = 95) <;> rfl
    simp [e0, e3, h, getW_of hb]
    refine call_fn0 (letter_fn b) .bool fun _ _ => ?_
    cases hL : isL b
    · simp [e0, e3, h, getW_of hb]
      refine call_fn0 (digit_fn b) .bool fun _ _ => ?_
      cases hD : isD b
      · by_cases h45 : b.toNat = 45
        · have k45 : (b.toNat : Int) = 45 := by omega
          simp [e0, e3, h, getW_of hb, k45, hstep]
          exact hN _ _ _ _ h (List.Sublist.refl _) ⟨by simp [upd, e0], by simp [upd], good (by simp [hpc, h45]), rfl⟩
        · have k45 : ¬ (b.toNat : Int) = 45 := by omega
          by_cases h46 : b.toNat = 46
          · have k46 : (b.toNat : Int) = 46 := by omega
            simp [e0, e3, h, getW_of hb, k45, k46, hstep]
            exact hN _ _ _ _ h (List.Sublist.refl _) ⟨by simp [upd, e0], by simp [upd], good (by simp [hpc, h46]), rfl⟩
          · have k46 : ¬ (b.toNat : Int) = 46 := by omega
            simp [e0, e3, h, getW_of hb, k45, k46, hstep]
            exact fin_plain ⟨by rw [bad (by simp [hpc, hL, hD, h45, h46])], rfl⟩
      · simp [e0, e3, h, getW_of hb, hstep]
        exact hN _ _ _ _ h (List.Sublist.refl _) ⟨by simp [upd, e0], by simp [upd], good (by simp [hpc, hD]), rfl⟩
    · simp [e0, e3, h, getW_of hb, hstep]
      exact hN _ _ _ _ h (List.Sublist.refl _) ⟨by simp [upd, e0], by simp [upd], good (by simp [hpc, hL]), rfl⟩
  · have h1 : i = l.length := by omega
    subst h1
    rw [List.take_length] at ha
    simp [e0, e3]
    refine call_fn0 (l1In_fn _ _ _) .bool fun _ _ => ?_
    simp
    exact fin_plain ⟨by simp [ha], rfl⟩
theorem impl_part {l : List UInt8} (hl : l.length ≤ mx) : Fnc Tryz.prog 99 [.str l] (.bool (pPart l)) := by
  refine fn_of c99 (by simp [F99]) fun c => ?_
  unfold F99
  simp
  refine loop_drop l.length (fun i e H c' => e 0 = .str l ∧ e 3 = .int .i64 i ∧ (l.take i).all pC = true ∧ H = []) ⟨rfl, rfl, by simp, rfl⟩ ?_
  intro i e H c hi ⟨e0, e3, ha, hH⟩ N hN
  subst hH
  by_cases h : i < l.length
  · have hb : l[i]? = some l[i] := List.getElem?_eq_getElem h
    have bad : pC l[i] = false → pPart l = false := fun hb => by
      have : l.all pC = false := by rw [List.all_eq_false]; exact ⟨_, List.getElem_mem h, by simp [hb]⟩
      unfold pPart; rw [this]; rfl
    have good : pC l[i] = true → (l.take (i + 1)).all pC = true := fun hx => all_step ha h hx
    have hstep : IntKind.i64.wrap ((i : Int) + 1) = ((i + 1 : Nat) : Int) := by rw [step64 hl h]; rfl
    generalize l[i] = b at hb bad good
    simp [e0, e3, h, getW_of hb]
    refine call_fn0 (isLetter_fn b) .bool fun _ _ => ?_
    cases hL : isA b
    · simp [e0, e3, h, getW_of hb]
      refine call_fn0 (isDigit_fn b) .bool fun _ _ => ?_
      cases hD : isD b
      · by_cases h95 : b.toNat = 95
        · have k95 : (b.toNat : Int) = 95 := by omega
          simp [e0, e3, h, getW_of hb, k95, hstep]
          exact hN _ _ _ _ h (List.Sublist.refl _) ⟨by simp [upd, e0], by simp [upd], good (by simp [pC, h95]), rfl⟩
        have k95 : ¬ (b.toNat : Int) = 95 := by omega
        by_cases h45 : b.toNat = 45
        · have k45 : (b.toNat : Int) = 45 := by omega
          simp [e0, e3, h, getW_of hb, k45, k95, hstep]
          exact hN _ _ _ _ h (List.Sublist.refl _) ⟨by simp [upd, e0], by simp [upd], good (by simp [pC, h45]), rfl⟩
        · have k45 : ¬ (b.toNat : Int) = 45 := by omega
          by_cases h46 : b.toNat = 46
          · have k46 : (b.toNat : Int) = 46 := by omega
            simp [e0, e3, h, getW_of hb, k45, k46, k95, hstep]
            exact hN _ _ _ _ h (List.Sublist.refl _) ⟨by simp [upd, e0], by simp [upd], good (by simp [pC, h46]), rfl⟩
          · have k46 : ¬ (b.toNat : Int) = 46 := by omega
            simp [e0, e3, h, getW_of hb, k45, k46, k95, hstep]
            exact fin_plain ⟨by rw [bad (by simp [pC, hL, hD, h45, h46, h95])], rfl⟩
      · simp [e0, e3, h, getW_of hb, hstep]
        exact hN _ _ _ _ h (List.Sublist.refl _) ⟨by simp [upd, e0], by simp [upd], good (by simp [pC, hD]), rfl⟩
    · simp [e0, e3, h, getW_of hb, hstep]
      exact hN _ _ _ _ h (List.Sublist.refl _) ⟨by simp [upd, e0], by simp [upd], good (by simp [pC, hL]), rfl⟩
  · have h1 : i = l.length := by omega
    subst h1
    rw [List.take_length] at ha
    have k : ((l.length : Int) ≤ 20) = (l.length ≤ 20) := by simp only [eq_iff_iff]; omega
    simp [e0, e3]
    exact fin_plain ⟨by simp [pPart, ha, k], rfl⟩

/-! ### the parts -/
def SplQ (l : List UInt8) (r : AV) (O : List AObj) : Prop :=
  (splitP l = none ∧ r = .tup [.nsl, .bool false] ∧ O = []) ∨
  ∃ (t : Nat) (rows : List (List AV)), r = .tup [.ref 0 t 1 ((splitP l).getD []).length, .bool (splitP l).isSome] ∧ O = [⟨false, t, 1, rows⟩] ∧ rows.take ((splitP l).getD []).length = ((splitP l).getD []).map encS
theorem cut_le {rows : List (List AV)} {o : List (List UInt8)} (h : rows.take o.length = o.map encS) : o.length ≤ rows.length := by
  have := congrArg List.length h
  simp at this; omega
theorem cut_view {i t : Nat} {rows : List (List AV)} {o : List (List UInt8)} {S : List AObj} (h : rows.take o.length = o.map encS) (hS : (⟨false, t, 1, rows⟩ : AObj) ∈ S) : View S (.ref i t 1 o.length) ((SL.mk t o).av 1 encS) := by
  have hx : ∀ (r : Nat) (x' : List AV), (o.map encS)[r]? = some x' → rows[r]? = some x' := fun r x' hr => by
    have hlt : r < o.length := by have := (List.getElem?_eq_some_iff.1 hr).1; simpa using this
    rw [← h, List.getElem?_take_of_lt hlt] at hr; exact hr
  refine .ref hS (cut_le h) (by simp) (fun r x x' h1 h2 => ?_) (fun r j x a h1 h2 => ?_) fun r j x x' a a' h1 h2 h3 h4 => ?_
  · rw [hx r x' h2] at h1; cases h1; rfl
  · obtain ⟨y, _, rfl⟩ := List.mem_map.1 (List.mem_of_getElem? h1)
    exact (encS_flat y a (List.mem_of_getElem? h2)).1
  · rw [hx r x' h2] at h1; cases h1; rw [h3] at h4; cases h4; exact .refl _
theorem cut_last {rows : List (List AV)} {o : List (List UInt8)} (h : rows.take o.length = o.map encS) : rows.take o.dropLast.length = o.dropLast.map encS := by
  rw [List.length_dropLast, List.dropLast_eq_take, List.map_take, ← h, List.take_take]
  congr 1; omega
theorem spl_tr {f : Nat} {l : List UInt8} (h : ∀ c, Con Tryz.prog f [.str l] [] c fun r O _ => SplQ l r O) :
    Tr Tryz.prog f [.str l] fun _ r => ∃ b : SL (List UInt8), r = .tup [b.av 1 encS, .bool (splitP l).isSome] ∧ b.list = (splitP l).getD [] :=
  tr_of h fun c r O c' _ hq ht => by
    rcases hq with ⟨h1, h2, h3⟩ | ⟨t, rows, h2, h3, h4⟩
    · exact ⟨.tup [.nsl, .bool false], by rw [h2]; exact .refl _, ⟨.nil, by rw [h1]; rfl, by rw [h1]; rfl⟩, from_tup (by simp)⟩
    · refine ⟨.tup [(SL.mk t ((splitP l).getD [])).av 1 encS, .bool (splitP l).isSome], by rw [h2]; exact view_tup (.cons (cut_view h4 (by rw [h3]; simp)) (Views.refl _ _)), ⟨_, rfl, rfl⟩, from_tup fun a ha => ?_⟩
      rcases List.mem_cons.1 ha with rfl | ha
      · refine flat_from encS_flat fun u hu => ht u ?_
        rw [flat_wood] at hu
        rw [h3]; simpa [tags] using hu
      · simp at ha; subst ha; simp
theorem spec_splitP {l : List UInt8} (hl : l.length ≤ 1048576) (c : Nat) : Con Tryz.prog 103 [.str l] [] c fun r O _ => SplQ l r O := by
  refine con_of c103 (by simp [F103]) ?_
  unfold F103
  simp
  refine loop_drop (l.length + 1) (fun i e H c' => e 0 = .str l ∧ e 6 = .int .i64 i ∧ ∃ (a : Nat) (o : List (List UInt8)) (t : Nat) (rows : List (List AV)), e 5 = .int .i64 a ∧ e 4 = .ref 0 t 1 o.length ∧ H = [⟨false, t, 1, rows⟩] ∧ rows.take o.length = o.map encS ∧ o.length ≤ i ∧
      (i ≤ l.length → a ≤ i ∧ (∀ j, a ≤ j → j < i → Lib.occAt l [47] j = false) ∧ splitP l = pfold o (Lib.split (l.drop a) [47])) ∧ (l.length < i → splitP l = some o)) ?_ ?_
  · exact ⟨rfl, rfl, 0, [], c, [], rfl, rfl, rfl, rfl, by simp, fun _ => ⟨by omega, fun j h1 h2 => by omega, by simp [splitP]⟩, fun h => by omega⟩
  intro i e H c' hi ⟨e0, e6, a, o, t, rows, e5, e4, hH, hrows, hoi, hinv, hend⟩ N hN
  subst hH
  have hcl := cut_le hrows
  have hm1 : (o.length + 1) * 16 ≤ 140737488355328 := by omega
  have hm2 : o.length + 1 ≤ mx := by unfold mx; omega
  by_cases hle : i ≤ l.length
  case neg =>
    have ho := hend (by omega)
    simp [e0, e4, e6, hle]
    exact fin_all (.inr ⟨t, rows, by simp [ho], rfl, by simp [ho, hrows]⟩)
  obtain ⟨ha, hno, hsp⟩ := hinv hle
  have hstep : IntKind.i64.wrap ((i : Int) + 1) = ((i + 1 : Nat) : Int) := by rw [wrap64 (by omega) (by omega)]; rfl
  by_cases hA : i < l.length ∧ l[i]? ≠ some 47
  · obtain ⟨h, hx⟩ := hA
    have hb : l[i]? = some l[i] := List.getElem?_eq_getElem h
    generalize l[i] = b at hb
    have hb47 : ¬ (b.toNat : Int) = 47 := fun e => hx (by rw [hb]; congr 1; exact UInt8.toNat_inj.1 (by have : (47 : UInt8).toNat = 47 := rfl; omega))
    simp [e0, e6, hle, h, getW_of hb, hb47, hstep]
    refine hN _ _ _ _ (by omega) (List.Sublist.refl _) ⟨by simp [upd, e0], by simp [upd], a, o, t, rows, by simp [upd, e5], by simp [upd, e4], rfl, hrows, by omega, fun _ => ⟨by omega, fun j h1 h2 => ?_, hsp⟩, fun h2 => by omega⟩
    rcases Nat.lt_or_ge j i with h3 | h3
    · exact hno j h1 h3
    · have : j = i := by omega
      subst this; rw [occ_one]; simp [hx]
  have hocc : i < l.length → l[i]? = some 47 := fun h => Classical.byContradiction fun hx => hA ⟨h, hx⟩
  obtain ⟨x, hx⟩ : ∃ x, (l.take i).drop a = x := ⟨_, rfl⟩
  obtain ⟨R, hR⟩ : ∃ R, (if i < l.length then Lib.split (l.drop (i + 1)) [47] else []) = R := ⟨_, rfl⟩
  have hcons : Lib.split (l.drop a) [47] = x :: R := by
    rw [← hx, ← hR]
    by_cases h : i < l.length
    · rw [if_pos h]
      exact split_at (by simp) ha hle hno (by rw [occ_one]; simp [hocc h])
    · have hie : i = l.length := by omega
      subst hie
      rw [if_neg h, List.take_length]; exact split_end (by simp) hno
  rw [hcons] at hsp
  simp only [pfold] at hsp
  have hxl : x.length ≤ mx := by rw [← hx]; simp; unfold mx; omega
  have next : ∀ (o' : List (List UInt8)), pstep o x = some o' → (i + 1 ≤ l.length → i + 1 ≤ i + 1 ∧ (∀ j, i + 1 ≤ j → j < i + 1 → Lib.occAt l [47] j = false) ∧ splitP l = pfold o' (Lib.split (l.drop (i + 1)) [47])) ∧ (l.length < i + 1 → splitP l = some o') := fun o' ho' => by
    rw [ho'] at hsp
    simp only [Option.bind_some] at hsp
    refine ⟨fun h2 => ⟨Nat.le_refl _, fun j h3 h4 => by omega, ?_⟩, fun h2 => ?_⟩
    · rw [hsp, ← hR, if_pos (by omega)]
    · rw [hsp, ← hR, if_neg (by omega)]; rfl
  have fails : pstep o x = none → splitP l = none := fun h => by rw [hsp, h]; rfl
  have hsl : ∀ K : AV → Prop, strSliceW (.str l) (some (.int .i64 a)) (some (.int .i64 i)) K = K (.str x) := fun K => by rw [← hx]; simp [ha, hle]
  rcases Nat.lt_or_ge i l.length with h | h
  focus
    simp [e0, e5, e6, hle, h, getW_of (hocc h), hstep, hsl, -strSliceW_str]
  rotate_left
  focus
    have h' : ¬ i < l.length := by omega
    simp [e0, e5, e6, hle, h', hstep, hsl, -strSliceW_str]
  rotate_left
  all_goals
    by_cases x0 : x = []
    · have hp : pstep o x = some o := by simp [pstep, x0]
      obtain ⟨n1, n2⟩ := next o hp
      simp [x0, e6, hstep]
      exact hN _ _ _ _ (by omega) (List.Sublist.refl _) ⟨by simp [upd, e0], by simp [upd], i + 1, o, t, rows, by simp [upd], by simp [upd, e4], rfl, hrows, by omega, n1, n2⟩
    by_cases x1 : x = [46]
    · have hp : pstep o x = some o := by simp [pstep, x1]
      obtain ⟨n1, n2⟩ := next o hp
      simp [x1, e6, hstep]
      exact hN _ _ _ _ (by omega) (List.Sublist.refl _) ⟨by simp [upd, e0], by simp [upd], i + 1, o, t, rows, by simp [upd], by simp [upd, e4], rfl, hrows, by omega, n1, n2⟩
    by_cases x2 : x = [46, 46]
    · by_cases o0 : o = []
      · have hp := fails (by simp [pstep, x2, o0])
        simp [x2, e4, o0]
        exact fin_sub (Hk := [⟨false, _, 1, []⟩]) ((List.Sublist.refl _).cons _) (view_tup (.cons .name (Views.refl _ _))) (.inr ⟨_, [], by rw [hp]; rfl, rfl, by rw [hp]; rfl⟩)
      · have hp : pstep o x = some o.dropLast := by simp [pstep, x2, o0]
        obtain ⟨n1, n2⟩ := next _ hp
        have hol : 0 < o.length := List.length_pos_iff.2 o0
        have hw : IntKind.i64.wrap ((o.length : Int) - 1) = ((o.length - 1 : Nat) : Int) := by rw [wrap64 (by omega) (by omega)]; omega
        have hol' : ¬ ((o.length : Int) = 0) := by omega
        simp [x2, e4, e6, o0, hw, hstep]
        exact hN _ _ _ _ (by omega) (List.Sublist.refl _) ⟨by simp [upd, e0], by simp [upd], i + 1, o.dropLast, t, rows, by simp [upd], by simp [upd], rfl, cut_last hrows, by simp; omega, n1, n2⟩
    simp [x0, x1, x2]
    refine call_fn0 (spec_part hxl) .bool fun _ _ => ?_
    have hlen : 0 < x.length := List.length_pos_iff.2 x0
    have hpp : (x.all pC && inR x.length 1 20) = pPart x := by
      unfold pPart inR
      have : ((1 : Int) ≤ x.length) := by omega
      have k : ((x.length : Int) ≤ 20) = (x.length ≤ 20) := by simp only [eq_iff_iff]; omega
      simp [this, k]
    rw [hpp]
    cases hP : pPart x
    · have hp := fails (by simp [pstep, x0, x1, x2, hP])
      simp
      exact fin_sub (Hk := [⟨false, _, 1, []⟩]) ((List.Sublist.refl _).cons _) (view_tup (.cons .name (Views.refl _ _))) (.inr ⟨_, [], by rw [hp]; rfl, rfl, by rw [hp]; rfl⟩)
    · have hp : pstep o x = some (o ++ [x]) := by simp [pstep, x0, x1, x2, hP]
      obtain ⟨n1, n2⟩ := next _ hp
      simp [e4, e6, hm1, hm2, cutW, hcl, hrows, hstep]
      exact hN _ _ _ _ (by omega) (sub_one _ _) ⟨by simp [upd, e0], by simp [upd], i + 1, o ++ [x], _, _, by simp [upd], by simp [upd] <;> rfl, rfl, by rw [List.map_append]; exact List.take_of_length_le (by simp), by simp; omega, n1, n2⟩
theorem impl_splitP {l : List UInt8} (hl : l.length ≤ 1048576) (c : Nat) : Con Tryz.prog 74 [.str l] [] c fun r O _ => SplQ l r O := by
  refine con_of c74 (by simp [F74]) ?_
  unfold F74
  simp
  refine call_tree0 (split_tr (by omega) (by simp)) fun r _ hc1 ⟨b, e1, q1⟩ _ => ?_
  subst e1
  simp
  have hpl := split_len l [47]
  have hpm := fun x => split_mem (l := l) (sep := [47]) (x := x)
  have hspl : splitP l = pfold [] b.list := by unfold splitP; rw [q1]
  rw [← q1] at hpl hpm
  refine loop_drop b.list.length (fun i e H c' => e 9 = b.av 1 encS ∧ e 10 = .int .i64 b.list.length ∧ e 11 = .int .i64 i ∧ ∃ (o : List (List UInt8)) (t : Nat) (rows : List (List AV)), e 4 = .ref 0 t 1 o.length ∧ H = [⟨false, t, 1, rows⟩] ∧ rows.take o.length = o.map encS ∧ o.length ≤ i ∧ splitP l = pfold o (b.list.drop i)) ?_ ?_
  · exact ⟨rfl, rfl, rfl, [], c, [], rfl, rfl, rfl, by simp, by simpa using hspl⟩
  intro i e H c' hi ⟨e9, e10, e11, o, t, rows, e4, hH, hrows, hoi, hsp⟩ N hN
  subst hH
  have hcl := cut_le hrows
  have hm1 : (o.length + 1) * 16 ≤ 140737488355328 := by omega
  have hm2 : o.length + 1 ≤ mx := by unfold mx; omega
  by_cases h : i < b.list.length
  case neg =>
    have hie : i = b.list.length := by omega
    subst hie
    rw [List.drop_length] at hsp
    have ho : splitP l = some o := hsp
    simp [e4, e9, e10, e11]
    exact fin_all (.inr ⟨t, rows, by simp [ho], rfl, by simp [ho, hrows]⟩)
  have hg : b.list[i]? = some b.list[i] := List.getElem?_eq_getElem h
  have hstep : IntKind.i64.wrap ((i : Int) + 1) = ((i + 1 : Nat) : Int) := by rw [step64 (by unfold mx; omega) h]; rfl
  have hxl := hpm _ (List.getElem_mem h)
  rw [List.drop_eq_getElem_cons h] at hsp
  simp only [pfold] at hsp
  generalize b.list[i] = x at hg hxl hsp
  have hxm : x.length ≤ mx := by unfold mx; omega
  have next : ∀ (o' : List (List UInt8)), pstep o x = some o' → splitP l = pfold o' (b.list.drop (i + 1)) := fun o' ho' => by
    rw [ho'] at hsp; exact hsp
  have fails : pstep o x = none → splitP l = none := fun h => by rw [hsp, h]; rfl
  simp [e9, e10, e11, h, getW_of hg]
  by_cases x0 : x = []
  · have hp : pstep o x = some o := by simp [pstep, x0]
    simp [x0, e11, hstep]
    exact hN _ _ _ _ (by omega) (List.Sublist.refl _) ⟨by simp [upd, e9], by simp [upd, e10], by simp [upd], o, t, rows, by simp [upd, e4], rfl, hrows, by omega, next o hp⟩
  by_cases x1 : x = [46]
  · have hp : pstep o x = some o := by simp [pstep, x1]
    simp [x1, e11, hstep]
    exact hN _ _ _ _ (by omega) (List.Sublist.refl _) ⟨by simp [upd, e9], by simp [upd, e10], by simp [upd], o, t, rows, by simp [upd, e4], rfl, hrows, by omega, next o hp⟩
  by_cases x2 : x = [46, 46]
  · by_cases o0 : o = []
    · have hp := fails (by simp [pstep, x2, o0])
      simp [x2, e4, o0]
      exact fin_sub (List.nil_sublist _) (.refl _) (.inl ⟨hp, rfl, rfl⟩)
    · have hp : pstep o x = some o.dropLast := by simp [pstep, x2, o0]
      have hol : 0 < o.length := List.length_pos_iff.2 o0
      have hw : IntKind.i64.wrap ((o.length : Int) - 1) = ((o.length - 1 : Nat) : Int) := by rw [wrap64 (by omega) (by omega)]; omega
      have hol' : ¬ ((o.length : Int) = 0) := by omega
      simp [x2, e4, e11, o0, hw, hstep]
      exact hN _ _ _ _ (by omega) (List.Sublist.refl _) ⟨by simp [upd, e9], by simp [upd, e10], by simp [upd], o.dropLast, t, rows, by simp [upd], rfl, cut_last hrows, by simp; omega, next _ hp⟩
  simp [x0, x1, x2]
  refine call_fn0 (impl_part hxm) .bool fun _ _ => ?_
  cases hP : pPart x
  · have hp := fails (by simp [pstep, x0, x1, x2, hP])
    simp
    exact fin_sub (List.nil_sublist _) (.refl _) (.inl ⟨hp, rfl, rfl⟩)
  · have hp : pstep o x = some (o ++ [x]) := by simp [pstep, x0, x1, x2, hP]
    simp [e4, e11, hm1, hm2, cutW, hcl, hrows, hstep]
    exact hN _ _ _ _ (by omega) (sub_one _ _) ⟨by simp [upd, e9], by simp [upd, e10], by simp [upd], o ++ [x], _, _, by simp [upd] <;> rfl, rfl, by rw [List.map_append]; exact List.take_of_length_le (by simp), by simp; omega, next _ hp⟩

/-! ### the plain form -/
def normA (l : List UInt8) : List AV := [.str ((normP l).getD []), .bool (normP l).isSome]
theorem free_norm (l : List UInt8) : Free (.tup (normA l)) := free_tup fun a ha => by
  simp [normA] at ha
  rcases ha with rfl | rfl
  · exact free_str _
  · exact free_bool _
theorem joinL_step (l : List (List UInt8)) {i : Nat} (h : i < l.length) : joinL [47] (l.take (i + 1)) = (if 0 < i then joinL [47] (l.take i) ++ [47] else joinL [47] (l.take i)) ++ l[i] := by
  rw [List.take_succ_eq_append_getElem h, joinL_snoc]
  simp only [List.length_take, Nat.min_eq_left (Nat.le_of_lt h)]
  by_cases h0 : 0 < i
  · rw [if_pos h0, if_pos h0]
  · have : i = 0 := by omega
    subst this; simp [joinL_nil]
theorem join_part {l : List UInt8} (i : Nat) : (joinL [47] (((splitP l).getD []).take i)).length ≤ 22 * (l.length + 2) := by
  cases h : splitP l with
  | none => simp [joinL_nil]
  | some o => exact join_short h i
theorem part_len {l x : List UInt8} (h : x ∈ (splitP l).getD []) : x.length ≤ 20 := by
  cases hs : splitP l with
  | none => rw [hs] at h; cases h
  | some o => rw [hs] at h; exact pPart_len ((splitP_ok hs).1 x h)
theorem parts_len (l : List UInt8) : ((splitP l).getD []).length ≤ l.length + 2 := by
  cases hs : splitP l with
  | none => simp
  | some o => exact (splitP_ok hs).2
theorem norm_eq {l : List UInt8} (h : ¬ 400 < l.length) : normP l = if (splitP l).isSome && inR (joinL [47] ((splitP l).getD [])).length 1 60 then some (joinL [47] ((splitP l).getD [])) else none := by
  unfold normP
  rw [if_neg h]
  cases splitP l <;> simp
theorem spec_norm {l : List UInt8} (hl : l.length ≤ mx) : Fnc Tryz.prog 77 [.str l] (.tup (normA l)) := by
  refine fn_of c77 (by simp [F77]) fun c => ?_
  unfold F77
  by_cases h400 : 400 < l.length
  · have k : (400 : Int) < l.length := by omega
    simp [k]
    exact fin_plain ⟨by simp [normA, normP, h400], rfl⟩
  have k : ¬ (400 : Int) < l.length := by omega
  simp [k]
  refine call_tree0 (spl_tr fun c => spec_splitP (by omega) c) fun r _ hc1 ⟨b, e1, q1⟩ _ => ?_
  subst e1
  simp
  have hj := fun i => join_part (l := l) i
  have hpl := parts_len l
  have hpm := fun x => part_len (l := l) (x := x)
  have hne := norm_eq h400
  rw [← q1] at hj hpl hpm hne
  refine loop_drop b.list.length (fun i e H c' => e 4 = b.av 1 encS ∧ e 5 = .bool (splitP l).isSome ∧ e 6 = .str (joinL [47] (b.list.take i)) ∧ e 7 = .int .i64 i ∧ H = []) ⟨rfl, rfl, by simp [upd, joinL_nil], rfl, rfl⟩ ?_
  intro i e H c' hi ⟨e4, e5, e6, e7, hH⟩ N hN
  subst hH
  by_cases h : i < b.list.length
  · have hg : b.list[i]? = some b.list[i] := List.getElem?_eq_getElem h
    have hstep : IntKind.i64.wrap ((i : Int) + 1) = ((i + 1 : Nat) : Int) := by rw [step64 (by unfold mx; omega) h]; rfl
    have hxl := hpm _ (List.getElem_mem h)
    have hjs := joinL_step b.list h
    have hji := hj i
    generalize b.list[i] = x at hg hxl hjs
    generalize joinL [47] (b.list.take i) = J at e6 hjs hji
    by_cases h0 : 0 < i
    · rw [if_pos h0] at hjs
      simp [e4, e6, e7, h, h0, getW_of hg, hstep]
      refine ⟨by unfold mx; omega, by unfold mx; omega, ?_⟩
      exact hN _ _ _ _ h (List.Sublist.refl _) ⟨by simp [upd, e4], by simp [upd, e5], by simp [upd, hjs], by simp [upd], rfl⟩
    · rw [if_neg h0] at hjs
      simp [e4, e6, e7, h, h0, getW_of hg, hstep]
      refine ⟨by unfold mx; omega, ?_⟩
      exact hN _ _ _ _ h (List.Sublist.refl _) ⟨by simp [upd, e4], by simp [upd, e5], by simp [upd, hjs], by simp [upd], rfl⟩
  · have h1 : i = b.list.length := by omega
    subst h1
    rw [List.take_length] at e6
    generalize joinL [47] b.list = J at e6 hne
    cases hs : (splitP l).isSome
    · rw [hs] at hne e5
      simp at hne
      simp [e4, e5, e6, e7]
      exact fin_plain ⟨by simp [normA, hne], rfl⟩
    · rw [hs] at hne e5
      simp [e4, e5, e6, e7]
      refine call_fn0 (l1In_fn _ _ _) .bool fun _ _ => ?_
      cases hr : inR J.length 1 60
      · rw [hr] at hne
        simp at hne
        simp
        exact fin_plain ⟨by simp [normA, hne], rfl⟩
      · rw [hr] at hne
        simp at hne
        simp [e6]
        exact fin_plain ⟨by simp [normA, hne], rfl⟩
theorem impl_norm {l : List UInt8} (hl : l.length ≤ mx) : Fnc Tryz.prog 43 [.str l] (.tup (normA l)) := by
  refine fn_of c43 (by simp [F43]) fun c => ?_
  unfold F43
  by_cases h400 : 400 < l.length
  · have k : (400 : Int) < l.length := by omega
    simp [k]
    exact fin_plain ⟨by simp [normA, normP, h400], rfl⟩
  have k : ¬ (400 : Int) < l.length := by omega
  simp [k]
  refine call_tree0 (spl_tr fun c => impl_splitP (by omega) c) fun r _ hc1 ⟨b, e1, q1⟩ _ => ?_
  subst e1
  simp
  have hj := join_part (l := l) ((splitP l).getD []).length
  have hpl := parts_len l
  have hne := norm_eq h400
  rw [List.take_length] at hj
  rw [← q1] at hj hpl hne
  have hjn : Fnc Tryz.prog 75 [b.av 1 encS, .str [47]] (.str (joinL [47] b.list)) := by
    cases b with
    | nil => exact join_nil_fn _
    | mk t xs => exact join_fn (by simp at hj ⊢; omega) (by simp at hpl ⊢; omega)
  refine call_fn0 hjn .str fun _ _ => ?_
  generalize joinL [47] b.list = J at hne
  cases hs : (splitP l).isSome
  · rw [hs] at hne
    simp at hne
    simp
    exact fin_plain ⟨by simp [normA, hne], rfl⟩
  · rw [hs] at hne
    simp
    refine call_fn0 (inRange_fn _ _ _) .bool fun _ _ => ?_
    cases hr : inR J.length 1 60
    · rw [hr] at hne
      simp at hne
      simp
      exact fin_plain ⟨by simp [normA, hne], rfl⟩
    · rw [hr] at hne
      simp at hne
      simp
      exact fin_plain ⟨by simp [normA, hne], rfl⟩
theorem isN_norm (l : List UInt8) : isN l = ((normP l).isSome && decide ((normP l).getD [] = l)) := by
  unfold isN
  cases normP l <;> simp
theorem spec_isN {l : List UInt8} (hl : l.length ≤ mx) : Fnc Tryz.prog 44 [.str l] (.bool (isN l)) := by
  refine fn_of c44 (by simp [F44]) fun c => ?_
  unfold F44
  simp
  refine call_fn0 (spec_norm hl) (free_norm _ _) fun _ _ => ?_
  rw [isN_norm]
  cases h : (normP l).isSome <;> simp [normA, h]
  · exact fin_plain ⟨rfl, rfl⟩
  · exact fin_plain ⟨rfl, rfl⟩
theorem impl_isN {l : List UInt8} (hl : l.length ≤ mx) : Fnc Tryz.prog 59 [.str l] (.bool (isN l)) := by
  refine fn_of c59 (by simp [F59]) fun c => ?_
  unfold F59
  simp
  refine call_fn0 (impl_norm hl) (free_norm _ _) fun _ _ => ?_
  rw [isN_norm]
  cases h : (normP l).isSome <;> simp [normA, h]
  · exact fin_plain ⟨rfl, rfl⟩
  · exact fin_plain ⟨rfl, rfl⟩
end A
end Go.Proofs.YtmhmaokbicgmbaaGreatDoor

/-
  The pairs' bounds, of the reference and of the program. No condition.
-/


namespace Go.Proofs.YtmhmaokbicgmbaaGreatDoor
namespace A
set_option linter.unusedVariables false
set_option linter.unusedSimpArgs false
set_option maxRecDepth 100000

def okPair (p : TPair) : Bool := decide (p.Name.length ≤ 60) && decide (p.Value.length ≤ 60)
def okP (l : List TPair) : Bool := l.all okPair && decide (l.length ≤ 12)
theorem okP_sz {l : List TPair} (h : okP l = true) : l.length ≤ 12 ∧ szL TPair.sz l ≤ 120 * l.length := by
  simp only [okP, Bool.and_eq_true, decide_eq_true_eq] at h
  refine ⟨h.2, ?_⟩
  have h1 := h.1
  clear h
  induction l with
  | nil => simp [szL]
  | cons p l ih =>
    simp only [List.all_cons, Bool.and_eq_true, okPair, decide_eq_true_eq] at h1
    have := ih h1.2
    simp [szL, TPair.sz] at this ⊢; omega
/-! ### the pairs' bounds -/
theorem TPair.flat' : Flat TPair.enc := fun x a ha => by
  simp [TPair.enc] at ha
  rcases ha with rfl | rfl <;> exact ⟨rfl, free_str _⟩
theorem TPair.free (x : TPair) : ∀ a, a ∈ x.enc → Free a := fun a ha => (TPair.flat' x a ha).2
theorem spec_pairs {s : SL TPair} (hn : s.list.length ≤ mx) : Fnc Tryz.prog 45 [s.av 2 TPair.enc] (.bool (okP s.list)) := by
  refine fn_of c45 (by simp [F45]) fun c => ?_
  unfold F45
  simp
  refine loop_drop s.list.length (fun i e H c' => e 0 = s.av 2 TPair.enc ∧ e 3 = .int .i64 i ∧ (s.list.take i).all okPair = true ∧ H = []) ⟨rfl, rfl, by simp, rfl⟩ ?_
  intro i e H c hi ⟨e0, e3, ha, hH⟩ N hN
  subst hH
  by_cases h : i < s.list.length
  · have hb : s.list[i]? = some s.list[i] := List.getElem?_eq_getElem h
    have bad : okPair s.list[i] = false → okP s.list = false := fun hb => by
      unfold okP
      have : s.list.all okPair = false := by rw [List.all_eq_false]; exact ⟨_, List.getElem_mem h, by simp [hb]⟩
      rw [this]; rfl
    have good : okPair s.list[i] = true → (s.list.take (i + 1)).all okPair = true := fun hx => all_step ha h hx
    have hstep : IntKind.i64.wrap ((i : Int) + 1) = ((i + 1 : Nat) : Int) := by rw [step64 hn h]; rfl
    generalize s.list[i] = p at hb bad good
    by_cases h1 : p.Name.length ≤ 60
    · have k1 : ¬ (60 < (p.Name.length : Int)) := by omega
      by_cases h2 : p.Value.length ≤ 60
      · have k2 : ¬ (60 < (p.Value.length : Int)) := by omega
        simp [e0, e3, h, getW_of hb, k1, k2, hstep]
        exact hN _ _ _ _ h (List.Sublist.refl _) ⟨by simp [upd, e0], by simp [upd], good (by simp [okPair, h1, h2]), rfl⟩
      · have k2 : (60 < (p.Value.length : Int)) := by omega
        simp [e0, e3, h, getW_of hb, k1, k2, hstep]
        exact fin_plain ⟨by rw [bad (by simp [okPair, h2])], rfl⟩
    · have k1 : (60 < (p.Name.length : Int)) := by omega
      simp [e0, e3, h, getW_of hb, k1, hstep]
      exact fin_plain ⟨by rw [bad (by simp [okPair, h1])], rfl⟩
  · have h1 : i = s.list.length := by omega
    subst h1
    rw [List.take_length] at ha
    have k : ((s.list.length : Int) ≤ 12) = (s.list.length ≤ 12) := by simp only [eq_iff_iff]; omega
    simp [e0, e3]
    exact fin_plain ⟨by simp [okP, ha, k], rfl⟩
theorem impl_pairs {s : SL TPair} (hn : s.list.length ≤ mx) : Fnc Tryz.prog 60 [s.av 2 TPair.enc] (.bool (okP s.list)) := by
  refine fn_of c60 (by simp [F60]) fun c => ?_
  unfold F60
  simp
  refine loop_drop s.list.length (fun i e H c' => e 0 = s.av 2 TPair.enc ∧ e 5 = s.av 2 TPair.enc ∧ e 6 = .int .i64 s.list.length ∧ e 7 = .int .i64 i ∧ (s.list.take i).all okPair = true ∧ H = []) ⟨rfl, rfl, rfl, rfl, by simp, rfl⟩ ?_
  intro i e H c hi ⟨e0, e5, e6, e7, ha, hH⟩ N hN
  subst hH
  by_cases h : i < s.list.length
  · have hb : s.list[i]? = some s.list[i] := List.getElem?_eq_getElem h
    have bad : okPair s.list[i] = false → okP s.list = false := fun hb => by
      unfold okP
      have : s.list.all okPair = false := by rw [List.all_eq_false]; exact ⟨_, List.getElem_mem h, by simp [hb]⟩
      rw [this]; rfl
    have good : okPair s.list[i] = true → (s.list.take (i + 1)).all okPair = true := fun hx => all_step ha h hx
    have hstep : IntKind.i64.wrap ((i : Int) + 1) = ((i + 1 : Nat) : Int) := by rw [step64 hn h]; rfl
    generalize s.list[i] = p at hb bad good
    by_cases h1 : p.Name.length ≤ 60
    · have k1 : ¬ (60 < (p.Name.length : Int)) := by omega
      by_cases h2 : p.Value.length ≤ 60
      · have k2 : ¬ (60 < (p.Value.length : Int)) := by omega
        simp [e0, e5, e6, e7, h, getW_of hb, k1, k2, hstep, putA]
        exact hN _ _ _ _ h (List.nil_sublist _) ⟨by simp [upd, e0], by simp [upd, e5], by simp [upd, e6], by simp [upd], good (by simp [okPair, h1, h2]), rfl⟩
      · have k2 : (60 < (p.Value.length : Int)) := by omega
        simp [e0, e5, e6, e7, h, getW_of hb, k1, k2, hstep, putA]
        exact fin_plain ⟨by rw [bad (by simp [okPair, h2])], rfl⟩
    · have k1 : (60 < (p.Name.length : Int)) := by omega
      simp [e0, e5, e6, e7, h, getW_of hb, k1, hstep, putA]
      exact fin_plain ⟨by rw [bad (by simp [okPair, h1])], rfl⟩
  · have h1 : i = s.list.length := by omega
    subst h1
    rw [List.take_length] at ha
    have k : ((s.list.length : Int) ≤ 12) = (s.list.length ≤ 12) := by simp only [eq_iff_iff]; omega
    simp [e0, e5, e6, e7]
    exact fin_plain ⟨by simp [okP, ha, k], rfl⟩
end A
end Go.Proofs.YtmhmaokbicgmbaaGreatDoor

/-
  IsRequest of the reference and of the program are the same plain function, and the law answers true. No condition.
-/


namespace Go.Proofs.YtmhmaokbicgmbaaGreatDoor
namespace A
set_option linter.unusedVariables false
set_option linter.unusedSimpArgs false
set_option maxRecDepth 100000

def isReq (x : TRequest) : Bool := isN x.Path && okP x.Query.list && okP x.Cookies.list
theorem req_same {a b : TRequest} (h : a.con = b.con) : a.Path = b.Path ∧ a.Query.list = b.Query.list ∧ a.Cookies.list = b.Cookies.list := by
  have e : ∀ l : List TPair, l.map TPair.con = l := fun l => List.map_id' l
  have h1 : (a.con.Query).list = (b.con.Query).list := congrArg (fun z => z.Query.list) h
  have h2 : (a.con.Cookies).list = (b.con.Cookies).list := congrArg (fun z => z.Cookies.list) h
  exact ⟨(congrArg TRequest.Path h : a.con.Path = b.con.Path), by simpa [TRequest.con, e] using h1, by simpa [TRequest.con, e] using h2⟩
theorem isReq_con {a b : TRequest} (h : a.con = b.con) : isReq a = isReq b := by
  obtain ⟨h1, h2, h3⟩ := req_same h
  unfold isReq; rw [h1, h2, h3]
theorem reqOk_con {a b : TRequest} (h : a.con = b.con) (ha : b.ok) : a.ok := by
  obtain ⟨h1, h2, h3⟩ := req_same h
  unfold TRequest.ok okPairS at ha ⊢; rw [h1, h2, h3]; exact ha
theorem spec_isReq {x : TRequest} (hx : x.ok) : Fnc Tryz.prog 18 [.agg x.enc] (.bool (isReq x)) := by
  obtain ⟨h1, h2, h3⟩ := hx
  refine fn_of c18 (by simp [F18]) fun c => ?_
  unfold F18
  simp
  refine call_fn0 (spec_isN h1) .bool fun _ _ => ?_
  cases hN : isN x.Path
  · simp
    exact fin_plain ⟨by simp [isReq, hN], rfl⟩
  simp
  refine call_fn0 (spec_pairs h2.1) .bool fun _ _ => ?_
  cases hQ : okP x.Query.list
  · simp
    exact fin_plain ⟨by simp [isReq, hQ], rfl⟩
  simp
  refine call_fn0 (spec_pairs h3.1) .bool fun _ _ => ?_
  simp
  exact fin_plain ⟨by simp [isReq, hN, hQ], rfl⟩
theorem impl_isReq {x : TRequest} (hx : x.ok) : Fnc Tryz.prog 30 [.agg x.enc] (.bool (isReq x)) := by
  obtain ⟨h1, h2, h3⟩ := hx
  refine fn_of c30 (by simp [F30]) fun c => ?_
  unfold F30
  simp
  refine call_fn0 (impl_isN h1) .bool fun _ _ => ?_
  cases hN : isN x.Path
  · simp
    exact fin_plain ⟨by simp [isReq, hN], rfl⟩
  simp
  refine call_fn0 (impl_pairs h2.1) .bool fun _ _ => ?_
  cases hQ : okP x.Query.list
  · simp
    exact fin_plain ⟨by simp [isReq, hQ], rfl⟩
  simp
  refine call_fn0 (impl_pairs h3.1) .bool fun _ _ => ?_
  simp
  exact fin_plain ⟨by simp [isReq, hN, hQ], rfl⟩
def TRequest.at (c : Nat) (a : TRequest) : TRequest := { a with Query := .mk c a.Query.list, Cookies := .mk c a.Cookies.list }
theorem TRequest.at_con (c : Nat) (a : TRequest) : (a.at c).con = a.con := rfl
theorem pairs_from (c : Nat) (l : List TPair) : From c ((SL.mk c l).av 2 TPair.enc) := by
  refine from_slc (Nat.le_refl _) fun row hr y hy => ?_
  obtain ⟨h, _, rfl⟩ := List.mem_map.1 hr
  exact (TPair.free h y hy).from c
theorem TRequest.at_from (c : Nat) (a : TRequest) : From c (.agg (a.at c).enc) := from_agg fun x hx => by
  simp [TRequest.enc, TRequest.at] at hx
  rcases hx with rfl | rfl | rfl
  · simp
  · exact pairs_from c _
  · exact pairs_from c _
def IsQ (a : TRequest) (v : AV) : Prop := ∃ b : TRequest, v = .agg b.enc ∧ b.con = a.con
theorem IsQ_some (a : TRequest) (c : Nat) : ∃ r, IsQ a r ∧ From c r := ⟨_, ⟨a.at c, rfl, a.at_con c⟩, a.at_from c⟩
end A
end Go.Proofs.YtmhmaokbicgmbaaGreatDoor

/-
  RequestVars of the program: arrays of texts out of pairs, kept as0 objects. No condition.
-/


namespace Go.Proofs.YtmhmaokbicgmbaaGreatDoor
namespace A
set_option linter.unusedVariables false
set_option linter.unusedSimpArgs false
set_option maxRecDepth 100000

/-! ### objects whose cells are named otherwise -/
theorem freeze_nil (G : Gh) : G.freeze [] = G := by
  cases G with
  | mk m c Fz =>
    unfold Gh.freeze
    congr 1
    funext t
    simp [tags]
theorem con_ren {P : Program} {f : Nat} {args : List AV} {H H' : List AObj} {c : Nat} {Q : AV → List AObj → Nat → Prop} (h : Con P f args H c Q) (hr : Rens [] H' H) : Con P f args H' c Q := by
  intro G w vs e I hs hrep
  have I2 : Inv G H w.heap := by
    have := Inv.ren (S := []) (Hk := H') (Hk' := H) I (fun o ho => ho) (by simp) (by rw [freeze_nil]; exact I) hr
    rwa [freeze_nil] at this
  have ht := hr.tags_eq
  refine (h G w vs e I2 hs hrep).mono fun en w' ⟨v, res, O, G', h1, h2, x, h4, h5⟩ => ?_
  exact ⟨v, res, O, G', h1, h2, ⟨x.x, x.os, x.tape, x.output, x.size, by rw [← ht]; exact x.frame, by rw [← ht]; exact x.newm, by rw [← ht]; exact x.oldH, by rw [← ht]; exact x.oldF⟩, h4, h5⟩
/-- A call that is handed all objects but the first. -/
theorem call_tail {P : Program} {K : AV → List AObj → Nat → Prop} {f : Nat} {l l' : List AV} {a : AObj} {B : List AObj} {c : Nat} {Q : AV → List AObj → Nat → Prop} (hf : Con P f l' B c Q) (hv : Views [] l l')
    (k : ∀ r B' c', c ≤ c' → Q r B' c' → Av [] r ∧ (∀ o, o ∈ B' → AvRows [] o) ∧ K r (a :: B') c') : CallW P f l (a :: B) c K := by
  intro hn hlt
  obtain ⟨h1, h2⟩ := hv.spec
  have hna : a.tag ∉ tags B := (List.nodup_cons.1 hn).1
  refine ⟨B, [], l', Q, List.sublist_cons_self _ _, by simp, by simp [tags], h1, h2, hf, fun r B' c' hc hq ho hd => ?_⟩
  obtain ⟨k1, k2, k3⟩ := k r B' c' hc hq
  refine ⟨a :: B', r, fun o h => ?_, List.nodup_cons.2 ⟨fun hm => hna (ho _ (hlt _ (by simp [tags])) hm), hd⟩, .refl r, k1, fun o _ h => k2 o h, k3⟩
  rcases List.mem_cons.1 h with rfl | h
  · exact .inr ⟨by simp, hna⟩
  · exact .inl h

/-! ### keys and where they stand -/
theorem eqKeyC (a b : TKey) : eqCells a.enc b.enc = some (decide (a = b)) := by
  obtain ⟨a1, a2, a3⟩ := a
  obtain ⟨b1, b2, b3⟩ := b
  simp only [TKey.enc, eqCells, keyEq, TKey.mk.injEq]
  cases h1 : (a1 == b1) <;> cases h2 : (a2 == b2) <;> cases h3 : (a3 == b3) <;> simp only [beq_iff_eq, beq_eq_false_iff_ne] at h1 h2 h3 <;> simp [h1, h2, h3]
@[simp high] theorem beqK (neg : Bool) (a b : TKey) (K : AV → Prop) : beqW' neg [2, 0, 1] (.agg a.enc) (.agg b.enc) K = K (.bool (decide (a = b) != neg)) := by
  unfold beqW'
  have e : fitsK [2, 0, 1] a.enc = true := by simp [TKey.enc, fitsK]
  simp only [e, eqKeyC, true_and]
theorem fd_hitI {l : List TEntry} {k : TKey} {i : Nat} {e : TEntry} (h : l[i]? = some e) (hi : fdN k (l.take i) = i) (he : e.Key = k) : fdI l k = i := by
  have h1 := fdN_hit h hi he
  have h2 := (List.getElem?_eq_some_iff.1 h).1
  unfold fdI
  rw [h1, if_pos h2]
theorem fd_endI {l : List TEntry} {k : TKey} (hi : fdN k (l.take l.length) = l.length) : fdI l k = -1 := by
  rw [List.take_length] at hi
  unfold fdI
  rw [hi, if_neg (by omega)]
theorem findKey_fn {v : TValue} {k : TKey} (hk : v.Kind = 4) (hn : v.Items.list.length ≤ mx) : Fnc Tryz.prog 89 [.agg v.enc, .agg k.enc] (.int .i64 (fdI v.Items.list k)) := by
  refine fn_of c89 (by simp [F89]) fun c => ?_
  unfold F89
  simp [hk]
  refine loop_drop v.Items.list.length (fun i e H c' => e 2 = .ptr 0 c 5 0 0 ∧ e 3 = .ptr 1 (c + 1) 3 0 0 ∧ e 11 = v.Items.av 8 TEntry.enc ∧ e 12 = .int .i64 v.Items.list.length ∧ e 13 = .int .i64 i ∧ fdN k (v.Items.list.take i) = i ∧ H = [⟨false, c, 5, [v.enc]⟩, ⟨false, c + 1, 3, [k.enc]⟩]) ⟨rfl, rfl, rfl, rfl, rfl, rfl, rfl⟩ ?_
  intro i e H c' hi ⟨e2, e3, e11, e12, e13, hf, hH⟩ N hN
  subst hH
  by_cases h : i < v.Items.list.length
  · have hx : v.Items.list[i]? = some v.Items.list[i] := List.getElem?_eq_getElem h
    generalize v.Items.list[i] = x at hx
    simp [e2, e3, e11, e12, e13, h, getW_of hx, -beqW'_agg]
    by_cases he : x.Key = k
    · simp [e2, e3, e11, e12, e13, he, -beqW'_agg]
      exact fin_plain ⟨by rw [fd_hitI hx hf he], rfl⟩
    · simp [e2, e3, e11, e12, e13, he, -beqW'_agg]
      exact hN _ _ _ _ h (sub_two _ _ _) ⟨by simp [upd, e2], by simp [upd, e3], by simp [upd, e11], by simp [upd, e12], by simp [upd]; exact step64 hn h, fdN_step hx hf he, rfl⟩
  · have hie : i = v.Items.list.length := by omega
    subst hie
    simp [e2, e3, e11, e12, e13]
    exact fin_plain ⟨by rw [fd_endI hf], rfl⟩
theorem max_fn (a b : Int) : Fnc Tryz.prog 90 [.int .i64 a, .int .i64 b] (.int .i64 (if a < b then b else a)) := by
  refine fn_of c90 (by simp [F90]) fun c => ?_
  unfold F90
  by_cases h : a < b
  · simp [h]
    exact fin_plain ⟨rfl, rfl⟩
  · simp [h]
    exact fin_plain ⟨rfl, rfl⟩

/-! ### an array that grows -/
def ItemsAt (ys : List TEntry) (j : Nat) (v : AV) (T : List AObj) : Prop := (ys = [] ∧ v = .nsl ∧ T = []) ∨ ∃ t, v = .ref j t 8 ys.length ∧ T = [⟨false, t, 8, ys.map TEntry.enc⟩]
def vrow (n : Int) (v : AV) : List AV := [.int .i64 4, .int .i64 0, .str [], .int .i64 n, v]
@[simp] theorem vrow_len (n : Int) (v : AV) : (vrow n v).length = 5 := (rfl)
@[simp] theorem vrow_all (n : Int) (v : AV) : (vrow n v).take 5 = vrow n v := (rfl)
@[simp] theorem vrow0 (n : Int) (v : AV) (K : AV → Prop) : getW (vrow n v) 0 K = K (.int .i64 4) := by simp [vrow]
@[simp] theorem vrow3 (n : Int) (v : AV) (K : AV → Prop) : getW (vrow n v) 3 K = K (.int .i64 n) := by simp [vrow]
@[simp] theorem vrow4 (n : Int) (v : AV) (K : AV → Prop) : getW (vrow n v) 4 K = K v := by simp [vrow]
@[simp] theorem vrow_put4 (n : Int) (v u : AV) : putA (vrow n v) 4 [u] = vrow n u := (rfl)
@[simp] theorem vrow_put3 (n m : Int) (v : AV) : putA (vrow n v) 3 [.int .i64 m] = vrow m v := (rfl)
theorem vrow_view {n : Int} {t j : Nat} {ys : List TEntry} {S : List AObj} (hS : (⟨false, t, 8, ys.map TEntry.enc⟩ : AObj) ∈ S) : View S (.agg (vrow n (.ref j t 8 ys.length))) (.agg (TValue.enc ⟨4, 0, [], n, .mk t ys⟩)) :=
  .agg rfl (fun j a ha => TValue.cells _ a (List.mem_of_getElem? ha)) fun j a a' h1 h2 => by
    match j, h1, h2 with
    | 0, h1, h2 => simp [vrow] at h1; simp [TValue.enc] at h2; subst h1; subst h2; exact .refl _
    | 1, h1, h2 => simp [vrow] at h1; simp [TValue.enc] at h2; subst h1; subst h2; exact .refl _
    | 2, h1, h2 => simp [vrow] at h1; simp [TValue.enc] at h2; subst h1; subst h2; exact .refl _
    | 3, h1, h2 => simp [vrow] at h1; simp [TValue.enc] at h2; subst h1; subst h2; exact .refl _
    | 4, h1, h2 => simp [vrow] at h1; simp [TValue.enc] at h2; subst h1; subst h2; exact view_ref hS rfl fun x _ => TEntry.cells x
    | j + 5, h1, h2 => simp [vrow] at h1
def PutQ (tv : Nat) (a : PArr) (r : AV) (O : List AObj) (c' : Nat) : Prop := r = .tup [] ∧ ∃ v' T', ItemsAt a.1 1 v' T' ∧ O = ⟨false, tv, 5, [vrow a.2 v']⟩ :: T'
@[simp] theorem putKV (k : TKey) (x : TVal0) : putA (putA [.bool false, .int .i64 0, .str [], .int .i64 0, .int .i64 0, .str [], .int .i64 0, .nsl] 0 k.enc) 3 x.enc = (TEntry.mk k x).enc := (rfl)
@[simp] theorem putZE (s : TEntry) : putA [.bool false, .int .i64 0, .str [], .int .i64 0, .int .i64 0, .str [], .int .i64 0, .nsl] 0 s.enc = s.enc := (rfl)
@[simp] theorem putZK (k : TKey) : (putA [.bool false, .int .i64 0, .str [], .int .i64 0, .int .i64 0, .str [], .int .i64 0, .nsl] 0 k.enc).length = 8 := (rfl)
@[simp] theorem putEV (s : TEntry) (x : TVal0) : putA s.enc 3 x.enc = (TEntry.mk s.Key x).enc := (rfl)
@[simp] theorem set_map_len {α : Type} (f : α → List AV) (l : List α) (y z : List AV) : (l.map f ++ [z]).set l.length y = l.map f ++ [y] := by
  have := set_len (l.map f) [] z y
  rwa [List.length_map] at this
@[simp] theorem getW_map_len {α : Type} (f : α → List AV) (l : List α) (z : List AV) (K : List AV → Prop) : getW (l.map f ++ [z]) l.length K = K z := by
  have := getW_len (l.map f) [] z K
  rwa [List.length_map] at this
theorem ren_vrow {tv i j t m : Nat} {n : Int} : RenO [] ⟨false, tv, 5, [vrow n (.ref i t 8 m)]⟩ ⟨false, tv, 5, [vrow n (.ref j t 8 m)]⟩ :=
  ⟨rfl, rfl, rfl, rfl, (fun h => by cases h), fun r x x' h1 h2 => by
    cases r with
    | zero =>
      simp at h1 h2; subst h1; subst h2
      refine ⟨rfl, fun j' a a' h3 h4 => ?_⟩
      match j', h3, h4 with
      | 0, h3, h4 => simp [vrow] at h3 h4; subst h3; subst h4; exact .inl rfl
      | 1, h3, h4 => simp [vrow] at h3 h4; subst h3; subst h4; exact .inl rfl
      | 2, h3, h4 => simp [vrow] at h3 h4; subst h3; subst h4; exact .inl rfl
      | 3, h3, h4 => simp [vrow] at h3 h4; subst h3; subst h4; exact .inl rfl
      | 4, h3, h4 => simp [vrow] at h3 h4; subst h3; subst h4; exact .inr ⟨rfl, .name⟩
      | j' + 5, h3, h4 => simp [vrow] at h3
    | succ r => simp at h1⟩
theorem put_fin {tv t i : Nat} {n : Int} {ys : List TEntry} {H : List AObj} {c m : Nat} (hm : ys.length = m) (hs : [(⟨false, tv, 5, [vrow n (.ref i t 8 m)]⟩ : AObj), ⟨false, t, 8, ys.map TEntry.enc⟩].Sublist H) :
    finW (PutQ tv (ys, n)) (.tup []) H c := by
  subst hm
  exact fin_ren hs (.cons ren_vrow (.cons (.refl _ _) .nil)) (.refl _) ⟨rfl, _, _, .inr ⟨t, rfl, rfl⟩, rfl⟩
theorem nextP_T {n : Int} {k : TKey} (h : k.Text = true) : nextP n k = n := by simp [nextP, h]
theorem nextP_F {n : Int} {k : TKey} (h : k.Text = false) : nextP n k = if n < k.Num + 1 then k.Num + 1 else n := by simp [nextP, h]
set_option maxHeartbeats 4000000 in
theorem putKey_nil {tv : Nat} {n : Int} {k : TKey} {x : TVal0} (hk : -1000000000 ≤ k.Num ∧ k.Num ≤ 1000000000) (hn : 0 ≤ n ∧ n ≤ 1000000001) (c : Nat) :
    Con Tryz.prog 62 [.ptr 0 tv 5 0 0, .agg k.enc, .agg x.enc] [⟨false, tv, 5, [vrow n .nsl]⟩] c (PutQ tv (putE ([], n) k x)) := by
  refine con_of c62 (by simp [F62]) ?_
  unfold F62
  have hp : putE ([], n) k x = ([⟨k, x⟩], nextP n k) := by simp [putE, fdN]
  rw [hp]
  simp
  refine callF_fn0 (findKey_fn (v := ⟨4, 0, [], n, .nil⟩) (k := k) rfl (Nat.zero_le _)) .int fun _ _ => ?_
  have hf : fdI [] k = -1 := by simp [fdI, fdN]
  have hm3 : 1 ≤ mx := by decide
  have hw : IntKind.i64.wrap (k.Num + 1) = k.Num + 1 := wrap64 (by omega) (by omega)
  have leaf : ∀ {t c : Nat} {m : Int} {b1 b2 g : AObj}, m = nextP n k → finW (PutQ tv ([⟨k, x⟩], nextP n k)) (.tup []) [⟨false, tv, 5, [vrow m (.ref 4 t 8 1)]⟩, b1, b2, g, ⟨false, t, 8, [(TEntry.mk k x).enc]⟩] c := fun {t c m b1 b2 g} hm => by
    subst hm
    exact put_fin (ys := [⟨k, x⟩]) rfl (.cons_cons _ (.cons _ (.cons _ (.cons _ (.cons_cons _ .slnil)))))
  simp [hf, hm3, hw]
  repeat' apply And.intro
  all_goals
    intro ht
    first
      | exact leaf (nextP_T ht).symm
      | (refine callF_fn0 (max_fn _ _) .int fun _ _ => ?_
         simp
         exact leaf (nextP_F ht).symm)
theorem callF_fnv {P : Program} {H : List AObj} {c : Nat} {K : AV → List AObj → Nat → Prop} {f : Nat} {l l' : List AV} {res : AV} (hf : Fnc P f l' res) (hv : Views H l l') (hres : Av (tags H) res) (k : ∀ c', c ≤ c' → K res H c') : callFW P f l H c K := ⟨l', res, hv, hf, hres, k⟩
theorem set_enc {ys : List TEntry} {i : Nat} {k : TKey} {x : TVal0} {e : TEntry} (h : ys[i]? = some e) (he : e.Key = k) : (ys.map TEntry.enc).set i ((TEntry.mk e.Key x).enc) = (ys.set i ⟨k, x⟩).map TEntry.enc := by rw [List.map_set, he]
set_option maxHeartbeats 4000000 in
theorem putKey_ref {tv t : Nat} {n : Int} {ys : List TEntry} {k : TKey} {x : TVal0} (hl : ys.length ≤ 1048576) (hk : -1000000000 ≤ k.Num ∧ k.Num ≤ 1000000000) (hn : 0 ≤ n ∧ n ≤ 1000000001) (c : Nat) :
    Con Tryz.prog 62 [.ptr 0 tv 5 0 0, .agg k.enc, .agg x.enc] [⟨false, tv, 5, [vrow n (.ref 1 t 8 ys.length)]⟩, ⟨false, t, 8, ys.map TEntry.enc⟩] c (PutQ tv (putE (ys, n) k x)) := by
  refine con_of c62 (by simp [F62]) ?_
  unfold F62
  simp
  refine callF_fnv (findKey_fn (v := ⟨4, 0, [], n, .mk t ys⟩) (k := k) rfl (by show ys.length ≤ mx; unfold mx; omega)) (.cons (vrow_view (t := t) (ys := ys) (by simp)) (.cons (.refl _) .nil)) .int fun _ _ => ?_
  have hm3 : 1 ≤ mx := by decide
  have hw : IntKind.i64.wrap (k.Num + 1) = k.Num + 1 := wrap64 (by omega) (by omega)
  have hle := fdN_le k ys
  by_cases hf : fdN k ys < ys.length
  · have hp : putE (ys, n) k x = (ys.set (fdN k ys) ⟨k, x⟩, n) := by simp [putE, hf]
    have hfi : fdI ys k = (fdN k ys : Int) := by unfold fdI; rw [if_pos hf]
    obtain ⟨e, he, hek⟩ := fdN_key hf
    rw [hp]
    have h0 : (0 : Int) ≤ fdI ys k := by omega
    simp [hfi, hf, getW_of he]
    rw [set_enc he hek]
    exact put_fin (ys := ys.set (fdN k ys) ⟨k, x⟩) (by simp) (.cons_cons _ (.cons_cons _ (List.nil_sublist _)))
  · have hp : putE (ys, n) k x = (ys ++ [⟨k, x⟩], nextP n k) := by simp [putE, hf]
    have hfi : fdI ys k = -1 := by unfold fdI; rw [if_neg hf]
    rw [hp]
    have hm1 : (ys.length + 1) * 96 ≤ 140737488355328 := by omega
    have hm2 : ys.length + 1 ≤ mx := by unfold mx; omega
    have leaf : ∀ {t c : Nat} {m : Int} {b1 b2 g : AObj}, m = nextP n k → finW (PutQ tv (ys ++ [⟨k, x⟩], nextP n k)) (.tup []) [⟨false, tv, 5, [vrow m (.ref 1 t 8 (ys.length + 1))]⟩, ⟨false, t, 8, ys.map TEntry.enc ++ [(TEntry.mk k x).enc]⟩, b1, b2, g] c := fun {t c m b1 b2 g} hm => by
      subst hm
      have := put_fin (tv := tv) (t := t) (i := 1) (n := nextP n k) (ys := ys ++ [⟨k, x⟩]) (m := ys.length + 1) (c := c) (H := [⟨false, tv, 5, [vrow (nextP n k) (.ref 1 t 8 (ys.length + 1))]⟩, ⟨false, t, 8, ys.map TEntry.enc ++ [(TEntry.mk k x).enc]⟩, b1, b2, g]) (by simp) (by rw [List.map_append]; exact .cons_cons _ (.cons_cons _ (List.nil_sublist _)))
      exact this
    have hm4 : (ys.length : Int) < (ys.length : Int) + 1 := by omega
    simp [hfi, hm1, hm2, hm3, hm4, hw]
    repeat' apply And.intro
    all_goals
      intro ht
      first
        | exact leaf (nextP_T ht).symm
        | (refine callF_fn0 (max_fn _ _) .int fun _ _ => ?_
           simp
           exact leaf (nextP_F ht).symm)
end A
end Go.Proofs.YtmhmaokbicgmbaaGreatDoor

/-
  The words that mark strings. No condition.
-/


namespace Go.Proofs.YtmhmaokbicgmbaaGreatDoor
namespace A
set_option linter.unusedVariables false
set_option linter.unusedSimpArgs false
set_option maxRecDepth 100000

def mtD : Nat → Nat → List UInt8 → List UInt8
  | 0, _, acc => acc
  | f + 1, k, acc => if k = 0 then acc else mtD f (k / 10) (UInt8.ofNat (48 + k % 10) :: acc)
def mtext (k : Int) : List UInt8 := if k ≤ 0 then [109, 48] else 109 :: mtD 40 k.toNat []
theorem mtD_len : ∀ (f k : Nat) (acc : List UInt8), (mtD f k acc).length ≤ f + acc.length
  | 0, _, _ => by simp [mtD]
  | f + 1, k, acc => by
    unfold mtD
    split
    · omega
    · have := mtD_len f (k / 10) (UInt8.ofNat (48 + k % 10) :: acc)
      rw [List.length_cons] at this; omega
theorem mtext_len (k : Int) : (mtext k).length ≤ 41 := by
  unfold mtext
  split
  · simp
  · have := mtD_len 40 k.toNat []
    simp at this ⊢; omega

theorem mtext_fn {k : Int} (hk : k ≤ 1000000000000000000) : Fnc Tryz.prog 35 [.int .i64 k] (.str (mtext k)) := by
  refine fn_of c35 (by simp [F35]) fun c => ?_
  unfold F35
  simp
  refine ⟨fun h => fin_plain ⟨by simp [mtext, h], rfl⟩, fun h => ?_⟩
  have hm : mtext k = 109 :: mtD 40 k.toNat [] := by simp [mtext]; omega
  refine loop_drop 20 (fun i e H c' => ∃ (n : Nat) (acc : List UInt8), e 0 = .int .i64 n ∧ e 3 = .str acc ∧ acc.length = i ∧ n * 10 ^ i ≤ k.toNat ∧ mtD (40 - i) n acc = mtD 40 k.toNat [] ∧ H = []) ⟨k.toNat, [], by simp; omega, rfl, rfl, by simp, rfl, rfl⟩ ?_
  intro i e H c hi ⟨n, acc, e0, e3, hl, hn, hd, hH⟩ N hN
  subst hH
  simp [e0, e3]
  refine ⟨fun h => ?_, fun h => ?_⟩
  · have hi' : i < 20 := by
      rcases Nat.lt_or_ge i 20 with h1 | h1
      · exact h1
      · have : i = 20 := by omega
        subst this
        omega
    have h10 : ((n : Int)).tmod 10 = ((n % 10 : Nat) : Int) := by rw [Int.tmod_eq_emod_of_nonneg (by omega)]; omega
    have hq : ((n : Int)).tdiv 10 = ((n / 10 : Nat) : Int) := by rw [Int.tdiv_eq_ediv_of_nonneg (by omega)]; omega
    have h48 : (48 : Int) + ((n % 10 : Nat) : Int) = ((48 + n % 10 : Nat) : Int) := by omega
    have hw : IntKind.u8.wrap (IntKind.i64.wrap (48 + ((n % 10 : Nat) : Int))) = ((UInt8.ofNat (48 + n % 10)).toNat : Int) := by rw [h48]; exact wrap_u8 (by omega)
    rw [h10]
    refine toStrW_ref (l := [UInt8.ofNat (48 + n % 10)]) (by rw [hw]; rfl) rfl (by simp [mx]) ?_
    have hm1 : 1 + acc.length ≤ mx := by unfold mx; omega
    have hq' : IntKind.i64.wrap ((n / 10 : Nat) : Int) = ((n / 10 : Nat) : Int) := by
      have : n ≤ k.toNat := Nat.le_trans (Nat.le_mul_of_pos_right n (Nat.pos_of_ne_zero (by simp))) hn
      exact wrap64 (by omega) (by omega)
    simp [e0, e3, hm1, hq, hq', -Int.natCast_ediv]
    refine hN _ _ [] _ hi' (by simp) ⟨n / 10, UInt8.ofNat (48 + n % 10) :: acc, ?_, ?_, by simp [hl], ?_, ?_, rfl⟩
    · simp [upd]
    · simp [upd]
    · refine Nat.le_trans ?_ hn
      rw [Nat.pow_succ, Nat.mul_comm (10 ^ i) 10, ← Nat.mul_assoc]
      exact Nat.mul_le_mul_right _ (Nat.div_mul_le_self n 10)
    · rw [← hd]
      have e40 : 40 - i = (40 - (i + 1)) + 1 := by omega
      rw [e40]
      conv => rhs; unfold mtD
      rw [if_neg (by omega)]
  · have h0 : n = 0 := by omega
    subst h0
    have ha : acc = mtD 40 k.toNat [] := by
      rw [← hd]
      have e40 : 40 - i = (39 - i) + 1 := by omega
      rw [e40]; simp [mtD]
    have hm1 : 1 + acc.length ≤ mx := by unfold mx; omega
    exact ⟨hm1, fin_plain ⟨by rw [hm, ← ha], rfl⟩⟩
end A
end Go.Proofs.YtmhmaokbicgmbaaGreatDoor

/-
  What hangs on the elements of a slice that is marked one by one. No condition.
-/

namespace Go.Proofs.YtmhmaokbicgmbaaGreatDoor
namespace A
set_option linter.unusedVariables false
set_option linter.unusedSimpArgs false

theorem mixed_flat {α : Type} {mk : Int → α → α} {cnt : α → Nat} {k : Int} {l : List α} {inn : α → List AObj} {i : Nat} (h : i < l.length) :
    (mixed mk cnt k l i).flatMap inn = (mks mk cnt k (l.take i)).flatMap inn ++ inn l[i] ++ (l.drop (i + 1)).flatMap inn := by
  unfold mixed
  rw [List.drop_eq_getElem_cons h, List.flatMap_append, List.flatMap_cons, List.append_assoc]
theorem mixed_flat' {α : Type} {mk : Int → α → α} {cnt : α → Nat} {k : Int} {l : List α} {inn : α → List AObj} {i : Nat} (h : i < l.length) :
    (mixed mk cnt k l (i + 1)).flatMap inn = (mks mk cnt k (l.take i)).flatMap inn ++ inn (mk (k + szL cnt (l.take i)) l[i]) ++ (l.drop (i + 1)).flatMap inn := by
  unfold mixed
  rw [mks_step mk cnt k l h, List.flatMap_append, List.flatMap_append]
  simp
end A
end Go.Proofs.YtmhmaokbicgmbaaGreatDoor

/-
  Bindings kept as0 objects, marked: printed by a program (wip/tools/genobj.py). No condition.
-/



namespace Go.Proofs.YtmhmaokbicgmbaaGreatDoor
namespace A
set_option linter.unusedVariables false
set_option linter.unusedSimpArgs false
set_option maxRecDepth 100000

def mkEntry (k : Int) (x : TEntry) : TEntry := ⟨⟨decide ((k).tmod 3 = 0), k + 1, mtext (k + 1 + 1)⟩, ⟨k + 1 + 1 + 1, k + 1 + 1 + 1 + 1, mtext (k + 1 + 1 + 1 + 1 + 1), k + 1 + 1 + 1 + 1 + 1 + 1⟩⟩
def cEntry (x : TEntry) : Nat := 7
theorem markEntry_nil (k : Int) : Fnc Tryz.prog 36 [.nsl, .int .i64 k] (.int .i64 k) := by
  refine fn_of c36 (by simp [F36]) fun c => ?_
  unfold F36
  simp
  refine loop_drop 0 (fun i e H c' => e 0 = .nsl ∧ e 1 = .int .i64 k ∧ e 5 = .int .i64 0 ∧ H = []) ⟨rfl, rfl, rfl, rfl⟩ ?_
  intro i e H c hi ⟨e0, e1, e5, hH⟩ N hN
  subst hH
  simp [e0, e1, e5]
  exact fin_plain ⟨rfl, rfl⟩
theorem szL_cEntry (l : List TEntry) : l.length ≤ szL cEntry l := by
  induction l with
  | nil => simp
  | cons x l ih => simp [szL, cEntry] at ih ⊢; omega
theorem szL_eEntry (l : List TEntry) : szL cEntry l = 7 * l.length := by
  show szL (fun _ => 7) l = _
  rw [szL_const]
theorem markEntry_con1 {l : List TEntry} (hz : szL cEntry l ≤ 16777216) {k : Int} (hk : 0 ≤ k ∧ k ≤ 1099511627776) (t c : Nat) :
    Con Tryz.prog 36 [.ref 0 t 8 l.length, .int .i64 k] ([⟨false, t, 8, l.map TEntry.enc⟩]) c fun r H' _ => r = .int .i64 (k + szL cEntry l) ∧ H' = [⟨false, t, 8, (mks mkEntry cEntry k l).map TEntry.enc⟩] := by
  have hln := szL_cEntry l
  refine con_of c36 (by simp [F36]) ?_
  unfold F36
  simp
  refine loop_drop l.length (fun i e H c' => e 0 = .ref 0 t 8 l.length ∧ e 1 = .int .i64 (k + szL cEntry (l.take i)) ∧ e 5 = .int .i64 i ∧ H = [⟨false, t, 8, (mixed mkEntry cEntry k l i).map TEntry.enc⟩]) ⟨rfl, by simp [szL], rfl, by rw [mixed_zero]⟩ ?_
  intro i e H c hi ⟨e0, e1, e5, hH⟩ N hN
  subst hH
  have hs := mixed_set mkEntry cEntry k l (i := i)
  have hst := fun h : i < l.length => szL_step cEntry l h
  have hle := szL_le cEntry l i
  have hle1 := szL_le cEntry l (i + 1)
  generalize hjj : k + (szL cEntry (l.take i) : Int) = j at e1 hs
  simp [e0, e1, e5]
  refine ⟨fun h => ?_, fun h => ?_⟩
  · have hs := hs h
    have hst := hst h
    have hg := mixed_get mkEntry cEntry k l h
    have hx := szL_mem (sz := cEntry) (List.getElem_mem h)
    generalize l[i] = x at hs hst hg hx
    simp only [cEntry] at hx hst
    have w0 : IntKind.i64.wrap (j + 1) = j + 1 := wrap64 (by omega) (by omega)
    have w1 : IntKind.i64.wrap (j + 1 + 1) = j + 1 + 1 := wrap64 (by omega) (by omega)
    have w2 : IntKind.i64.wrap (j + 1 + 1 + 1) = j + 1 + 1 + 1 := wrap64 (by omega) (by omega)
    have w3 : IntKind.i64.wrap (j + 1 + 1 + 1 + 1) = j + 1 + 1 + 1 + 1 := wrap64 (by omega) (by omega)
    have w4 : IntKind.i64.wrap (j + 1 + 1 + 1 + 1 + 1) = j + 1 + 1 + 1 + 1 + 1 := wrap64 (by omega) (by omega)
    have w5 : IntKind.i64.wrap (j + 1 + 1 + 1 + 1 + 1 + 1) = j + 1 + 1 + 1 + 1 + 1 + 1 := wrap64 (by omega) (by omega)
    have w6 : IntKind.i64.wrap (j + 1 + 1 + 1 + 1 + 1 + 1 + 1) = j + 1 + 1 + 1 + 1 + 1 + 1 + 1 := wrap64 (by omega) (by omega)
    refine ⟨h, x, hg, ?_⟩
    simp [e0, e1, e5, h, mixed_len, w0, w1, w2, w3, w4, w5, w6, putA, TEntry.enc]
    refine call_fn0 (mtext_fn (by omega)) .str fun _ _ => ?_
    simp [e0, e1, e5, h, mixed_len, w0, w1, w2, w3, w4, w5, w6, putA, TEntry.enc]
    refine call_fn0 (mtext_fn (by omega)) .str fun _ _ => ?_
    simp [e0, e1, e5, h, mixed_len, w0, w1, w2, w3, w4, w5, w6, putA, TEntry.enc]
    refine call_fn0 (markEntry_nil _) .int fun _ _ => ?_
    simp [e0, e1, e5, h, mixed_len, w0, w1, w2, w3, w4, w5, w6, putA, TEntry.enc]
    refine hN _ _ _ _ h (List.Sublist.refl _) ⟨by simp [upd, e0], ?_, by simp [upd]; exact step64 (by unfold mx; omega) h, ?_⟩
    · simp [upd, w0, w1, w2, w3, w4, w5, w6, hst]; omega
    · rw [← hs, List.map_set]
      simp [mkEntry, TEntry.enc, w0, w1, w2, w3, w4, w5, w6]
  · have h1 : i = l.length := by omega
    subst h1
    refine fin_all ⟨?_, ?_⟩
    · rw [← hjj]; simp
    · rw [mixed_all]
theorem markEntry_con {s : SL TEntry} (hz : szL cEntry s.list ≤ 16777216) {k : Int} (hk : 0 ≤ k ∧ k ≤ 1099511627776) (c : Nat) :
    Con Tryz.prog 36 [s.ref 8, .int .i64 k] (s.wood 8 TEntry.enc noInn) c fun r H' _ => r = .int .i64 (k + szL cEntry s.list) ∧ H' = (s.marks mkEntry cEntry k).wood 8 TEntry.enc noInn := by
  cases s with
  | nil =>
    have := markEntry_nil k c
    simpa [SL.ref, SL.wood, SL.marks, szL] using this
  | mk t l =>
    have := markEntry_con1 (l := l) hz hk t c
    simpa [SL.ref, SL.wood, SL.marks, wood_flat] using this
def TBinding.encO (s : TBinding) : List AV := [.str s.Name, .int .i64 s.Val.Kind, .int .i64 s.Val.Num, .str s.Val.Str, .int .i64 s.Val.Next, s.Val.Items.ref 8]
def TBinding.inn (s : TBinding) : List AObj := s.Val.Items.wood 8 TEntry.enc noInn
@[simp] theorem TBinding.lenO (s : TBinding) : s.encO.length = 6 := (rfl)
@[simp] theorem TBinding.allO (s : TBinding) : s.encO.take 6 = s.encO := (rfl)
@[simp] theorem TBinding.o0 (s : TBinding) (K : AV → Prop) : getW s.encO 0 K = K (.str s.Name) := by simp [TBinding.encO]
@[simp] theorem TBinding.o1 (s : TBinding) (K : AV → Prop) : getW s.encO 1 K = K (.int .i64 s.Val.Kind) := by simp [TBinding.encO]
@[simp] theorem TBinding.o2 (s : TBinding) (K : AV → Prop) : getW s.encO 2 K = K (.int .i64 s.Val.Num) := by simp [TBinding.encO]
@[simp] theorem TBinding.o3 (s : TBinding) (K : AV → Prop) : getW s.encO 3 K = K (.str s.Val.Str) := by simp [TBinding.encO]
@[simp] theorem TBinding.o4 (s : TBinding) (K : AV → Prop) : getW s.encO 4 K = K (.int .i64 s.Val.Next) := by simp [TBinding.encO]
@[simp] theorem TBinding.o5 (s : TBinding) (K : AV → Prop) : getW s.encO 5 K = K (s.Val.Items.ref 8) := by simp [TBinding.encO]
theorem TBinding.freeO : ∀ (x : TBinding) a, a ∈ x.encO → Free a := fun x a ha => by
  simp [TBinding.encO] at ha
  rcases ha with rfl | rfl | rfl | rfl | rfl | rfl
  · exact free_str _
  · exact free_int _ _
  · exact free_int _ _
  · exact free_str _
  · exact free_int _ _
  · exact free_ref _ _
theorem TBinding.freeI : ∀ (x : TBinding) o, o ∈ x.inn → ∀ T, AvRows T o := fun x o ho => by
  exact flat_free TEntry.flat _ _ o ho
theorem TBinding.viewO {S : List AObj} (x : TBinding) (h : ∀ o, o ∈ x.inn → o ∈ S) : ∀ (j : Nat) (a a' : AV), x.encO[j]? = some a → x.enc[j]? = some a' → View S a a' := fun j a a' h1 h2 => by
  match j, h1, h2 with
  | 0, h1, h2 => simp [TBinding.encO] at h1; simp [TBinding.enc] at h2; subst h1; subst h2; exact .refl _
  | 1, h1, h2 => simp [TBinding.encO] at h1; simp [TBinding.enc] at h2; subst h1; subst h2; exact .refl _
  | 2, h1, h2 => simp [TBinding.encO] at h1; simp [TBinding.enc] at h2; subst h1; subst h2; exact .refl _
  | 3, h1, h2 => simp [TBinding.encO] at h1; simp [TBinding.enc] at h2; subst h1; subst h2; exact .refl _
  | 4, h1, h2 => simp [TBinding.encO] at h1; simp [TBinding.enc] at h2; subst h1; subst h2; exact .refl _
  | 5, h1, h2 => simp [TBinding.encO] at h1; simp [TBinding.enc] at h2; subst h1; subst h2; exact view_flat (fun o ho => h o (by simp [TBinding.inn, ho])) TEntry.flat.cells
  | j + 6, h1, h2 => simp [TBinding.encO] at h1
theorem view_OBinding {S : List AObj} {s : SL TBinding} (hs : ∀ o, o ∈ s.wood 6 TBinding.encO TBinding.inn → o ∈ S) : View S (s.ref 6) (s.av 6 TBinding.enc) :=
  view_wood hs (fun x => TBinding.cells x) (fun _ => rfl) fun x h => TBinding.viewO x h
theorem view_ABinding {S : List AObj} {s : TBinding} (hs : ∀ o, o ∈ s.inn → o ∈ S) : View S (.agg s.encO) (.agg s.enc) :=
  .agg rfl (fun j a ha => TBinding.cells s a (List.mem_of_getElem? ha)) (TBinding.viewO s hs)
def mkBinding (k : Int) (x : TBinding) : TBinding := ⟨mtext k, ⟨k + 1, k + 1 + 1, mtext (k + 1 + 1 + 1), k + 1 + 1 + 1 + 1, x.Val.Items.marks mkEntry cEntry (k + 1 + 1 + 1 + 1 + 1)⟩⟩
def cBinding (x : TBinding) : Nat := 5 + szL cEntry x.Val.Items.list
theorem markBinding_nil (k : Int) : Fnc Tryz.prog 12 [.nsl, .int .i64 k] (.int .i64 k) := by
  refine fn_of c12 (by simp [F12]) fun c => ?_
  unfold F12
  simp
  refine loop_drop 0 (fun i e H c' => e 0 = .nsl ∧ e 1 = .int .i64 k ∧ e 5 = .int .i64 0 ∧ H = []) ⟨rfl, rfl, rfl, rfl⟩ ?_
  intro i e H c hi ⟨e0, e1, e5, hH⟩ N hN
  subst hH
  simp [e0, e1, e5]
  exact fin_plain ⟨rfl, rfl⟩
theorem szL_cBinding (l : List TBinding) : l.length ≤ szL cBinding l := by
  induction l with
  | nil => simp
  | cons x l ih => simp [szL, cBinding] at ih ⊢; omega
theorem mkBinding_encO (k : Int) (x : TBinding) : (mkBinding k x).encO = [.str (mtext (k)), .int .i64 (k + 1), .int .i64 (k + 1 + 1), .str (mtext (k + 1 + 1 + 1)), .int .i64 (k + 1 + 1 + 1 + 1), x.Val.Items.ref 8] := by
  simp [mkBinding, TBinding.encO, SL.marks_ref]
theorem mkBinding_tags (k : Int) (x : TBinding) : tags (mkBinding k x).inn = tags x.inn := by
  have eT : ∀ X Y : List AObj, tags (X ++ Y) = tags X ++ tags Y := fun X Y => by simp [tags]
  simp only [TBinding.inn, mkBinding, eT, flat_marks (enc := TEntry.enc) (w := 8) mkEntry cEntry]
theorem markBinding_con1 {l : List TBinding} (hz : szL cBinding l ≤ 16777216) {k : Int} (hk : 0 ≤ k ∧ k ≤ 549755813888) (t c : Nat) :
    Con Tryz.prog 12 [.ref 0 t 6 l.length, .int .i64 k] (wood t 6 TBinding.encO TBinding.inn l) c fun r H' _ => r = .int .i64 (k + szL cBinding l) ∧ H' = wood t 6 TBinding.encO TBinding.inn (mks mkBinding cBinding k l) := by
  have hln := szL_cBinding l
  refine con_of c12 (by simp [F12]) ?_
  unfold F12
  simp
  refine loop_drop l.length (fun i e H c' => e 0 = .ref 0 t 6 l.length ∧ e 1 = .int .i64 (k + szL cBinding (l.take i)) ∧ e 5 = .int .i64 i ∧ H = ⟨false, t, 6, (mixed mkBinding cBinding k l i).map TBinding.encO⟩ :: (mixed mkBinding cBinding k l i).flatMap TBinding.inn) ⟨rfl, by simp [szL], rfl, by rw [mixed_zero]; rfl⟩ ?_
  intro i e H c hi ⟨e0, e1, e5, hH⟩ N hN
  subst hH
  have hs := mixed_set mkBinding cBinding k l (i := i)
  have hst := fun h : i < l.length => szL_step cBinding l h
  have hle := szL_le cBinding l i
  have hle1 := szL_le cBinding l (i + 1)
  have hfl := fun h : i < l.length => mixed_flat (mk := mkBinding) (cnt := cBinding) (k := k) (inn := TBinding.inn) h
  have hfl' := fun h : i < l.length => mixed_flat' (mk := mkBinding) (cnt := cBinding) (k := k) (inn := TBinding.inn) h
  generalize hjj : k + (szL cBinding (l.take i) : Int) = j at e1 hs hfl'
  simp [e0, e1, e5]
  refine ⟨fun h => ?_, fun h => ?_⟩
  · have hs := hs h
    have hst := hst h
    have hg := mixed_get mkBinding cBinding k l h
    have hx := szL_mem (sz := cBinding) (List.getElem_mem h)
    rw [hfl h]
    have hfl' := hfl' h
    generalize l[i] = x at hs hst hg hx hfl'
    generalize (mks mkBinding cBinding k (l.take i)).flatMap TBinding.inn = PRE at hfl' ⊢
    generalize (l.drop (i + 1)).flatMap TBinding.inn = POST at hfl' ⊢
    simp only [cBinding] at hx hst
    have w0 : IntKind.i64.wrap (j + 1) = j + 1 := wrap64 (by omega) (by omega)
    have w1 : IntKind.i64.wrap (j + 1 + 1) = j + 1 + 1 := wrap64 (by omega) (by omega)
    have w2 : IntKind.i64.wrap (j + 1 + 1 + 1) = j + 1 + 1 + 1 := wrap64 (by omega) (by omega)
    have w3 : IntKind.i64.wrap (j + 1 + 1 + 1 + 1) = j + 1 + 1 + 1 + 1 := wrap64 (by omega) (by omega)
    have w4 : IntKind.i64.wrap (j + 1 + 1 + 1 + 1 + 1) = j + 1 + 1 + 1 + 1 + 1 := wrap64 (by omega) (by omega)
    refine call_fn0 (mtext_fn (by omega)) .str fun _ _ => ?_
    simp [e0, e1, e5, h]
    refine ⟨_, hg, ?_⟩
    simp [e0, e1, e5, h, mixed_len, w0, w1, w2, w3, w4, putA, TBinding.encO, TBinding.inn]
    refine call_fn0 (mtext_fn (by omega)) .str fun _ _ => ?_
    simp [e0, e1, e5, h, mixed_len, w0, w1, w2, w3, w4, putA, TBinding.encO, TBinding.inn]
    refine call_midr (f := 36) (B := x.Val.Items.wood 8 TEntry.enc noInn) (markEntry_con (s := x.Val.Items) (by omega) (k := j + 1 + 1 + 1 + 1 + 1) ⟨by omega, by omega⟩ _) (Views.refl _ _) fun r B' c' hc ⟨q1, q2⟩ => ?_
    subst q1; subst q2
    refine ⟨flat_marks (enc := TEntry.enc) (w := 8) mkEntry cEntry _ x.Val.Items, .int, fun o ho => flat_free TEntry.flat _ _ o ho _, ?_⟩
    simp [e0, e1, e5, h, mixed_len, w0, w1, w2, w3, w4, putA, TBinding.encO, TBinding.inn]
    refine hN _ _ _ _ h (List.Sublist.refl _) ⟨by simp [upd, e0], ?_, by simp [upd]; exact step64 (by unfold mx; omega) h, ?_⟩
    · simp [upd, w0, w1, w2, w3, w4, hst]; omega
    · rw [hfl', ← hs, List.map_set, mkBinding_encO]
      simp [mkBinding, TBinding.inn]
  · have h1 : i = l.length := by omega
    subst h1
    refine fin_all ⟨?_, ?_⟩
    · rw [← hjj]; simp
    · rw [mixed_all]; rfl
theorem markBinding_con {s : SL TBinding} (hz : szL cBinding s.list ≤ 16777216) {k : Int} (hk : 0 ≤ k ∧ k ≤ 549755813888) (c : Nat) :
    Con Tryz.prog 12 [s.ref 6, .int .i64 k] (s.wood 6 TBinding.encO TBinding.inn) c fun r H' _ => r = .int .i64 (k + szL cBinding s.list) ∧ H' = (s.marks mkBinding cBinding k).wood 6 TBinding.encO TBinding.inn := by
  cases s with
  | nil =>
    have := markBinding_nil k c
    simpa [SL.ref, SL.wood, SL.marks, szL] using this
  | mk t l =>
    have := markBinding_con1 (l := l) hz hk t c
    exact this
end A
end Go.Proofs.YtmhmaokbicgmbaaGreatDoor

/-
  Pairs and requests kept as0 objects: printed by a program (wip/tools/genobj.py). No condition.
-/



namespace Go.Proofs.YtmhmaokbicgmbaaGreatDoor
namespace A
set_option linter.unusedVariables false
set_option linter.unusedSimpArgs false
set_option maxRecDepth 100000

theorem call_mid2 {P : Program} {K : AV → List AObj → Nat → Prop} {f : Nat} {l l' : List AV} {a : AObj} {A A2 B C : List AObj} {c : Nat} {Q : AV → List AObj → Nat → Prop} (hf : Con P f l' B c Q) (hv : Views [] l l')
    (k : ∀ r B' c', c ≤ c' → Q r B' c' → tags B' = tags B ∧ Av [] r ∧ (∀ o, o ∈ B' → AvRows [] o) ∧ K r (a :: (A ++ (A2 ++ (B' ++ C)))) c') : CallW P f l (a :: (A ++ (A2 ++ (B ++ C)))) c K := by
  have e : ∀ X : List AObj, a :: (A ++ (A2 ++ (X ++ C))) = a :: ((A ++ A2) ++ (X ++ C)) := fun X => by simp
  rw [e]
  exact call_midr hf hv fun r B' c' hc hq => by rw [← e]; exact k r B' c' hc hq
theorem call_mid3 {P : Program} {K : AV → List AObj → Nat → Prop} {f : Nat} {l l' : List AV} {a : AObj} {A A2 A3 B C : List AObj} {c : Nat} {Q : AV → List AObj → Nat → Prop} (hf : Con P f l' B c Q) (hv : Views [] l l')
    (k : ∀ r B' c', c ≤ c' → Q r B' c' → tags B' = tags B ∧ Av [] r ∧ (∀ o, o ∈ B' → AvRows [] o) ∧ K r (a :: (A ++ (A2 ++ (A3 ++ (B' ++ C))))) c') : CallW P f l (a :: (A ++ (A2 ++ (A3 ++ (B ++ C))))) c K := by
  have e : ∀ X : List AObj, a :: (A ++ (A2 ++ (A3 ++ (X ++ C)))) = a :: ((A ++ (A2 ++ A3)) ++ (X ++ C)) := fun X => by simp
  rw [e]
  exact call_midr hf hv fun r B' c' hc hq => by rw [← e]; exact k r B' c' hc hq
theorem call_mid4 {P : Program} {K : AV → List AObj → Nat → Prop} {f : Nat} {l l' : List AV} {a : AObj} {A A2 A3 A4 B C : List AObj} {c : Nat} {Q : AV → List AObj → Nat → Prop} (hf : Con P f l' B c Q) (hv : Views [] l l')
    (k : ∀ r B' c', c ≤ c' → Q r B' c' → tags B' = tags B ∧ Av [] r ∧ (∀ o, o ∈ B' → AvRows [] o) ∧ K r (a :: (A ++ (A2 ++ (A3 ++ (A4 ++ (B' ++ C)))))) c') : CallW P f l (a :: (A ++ (A2 ++ (A3 ++ (A4 ++ (B ++ C)))))) c K := by
  have e : ∀ X : List AObj, a :: (A ++ (A2 ++ (A3 ++ (A4 ++ (X ++ C))))) = a :: ((A ++ (A2 ++ (A3 ++ A4))) ++ (X ++ C)) := fun X => by simp
  rw [e]
  exact call_midr hf hv fun r B' c' hc hq => by rw [← e]; exact k r B' c' hc hq
theorem TPair.flat : Flat TPair.enc := fun x a ha => by
  simp [TPair.enc] at ha
  rcases ha with rfl | rfl <;> exact ⟨rfl, fun T => by constructor⟩
theorem toPairSO {s : SL TPair} (h : szPairS s ≤ 1048576) (c : Nat) : Con Tryz.prog 29 [s.av 2 TPair.enc] [] c fun r H' _ => ∃ b : SL TPair, r = b.ref 2 ∧ H' = b.wood 2 TPair.enc noInn ∧ b.list.map TPair.con = s.list.map TPair.con := by
  unfold szPairS at h
  exact toSO_fn (g := 58) (z := [.str [], .str []]) (bytes := 32) c29 rfl (fun _ => rfl) (fun _ => rfl) (fun x a ha => (TPair.flat x a ha).2) (fun x o ho => by cases ho) (by omega) (by omega)
    (fun x hx c => (TPair.to_fn (by have := szL_mem (sz := TPair.sz) hx; omega) c).mono fun r H' c' _ ⟨hH, ⟨b, hr, hb⟩, _⟩ => ⟨b, hr, hH, hb⟩) c
def mkPair (k : Int) (x : TPair) : TPair := ⟨mtext k, mtext (k + 1)⟩
def cPair (x : TPair) : Nat := 2
theorem markPair_nil (k : Int) : Fnc Tryz.prog 34 [.nsl, .int .i64 k] (.int .i64 k) := by
  refine fn_of c34 (by simp [F34]) fun c => ?_
  unfold F34
  simp
  refine loop_drop 0 (fun i e H c' => e 0 = .nsl ∧ e 1 = .int .i64 k ∧ e 5 = .int .i64 0 ∧ H = []) ⟨rfl, rfl, rfl, rfl⟩ ?_
  intro i e H c hi ⟨e0, e1, e5, hH⟩ N hN
  subst hH
  simp [e0, e1, e5]
  exact fin_plain ⟨rfl, rfl⟩
theorem szL_cPair (l : List TPair) : l.length ≤ szL cPair l := by
  induction l with
  | nil => simp
  | cons x l ih => simp [szL, cPair] at ih ⊢; omega
theorem szL_ePair (l : List TPair) : szL cPair l = 2 * l.length := by
  show szL (fun _ => 2) l = _
  rw [szL_const]
theorem markPair_con1 {l : List TPair} (hz : szL cPair l ≤ 16777216) {k : Int} (hk : 0 ≤ k ∧ k ≤ 1099511627776) (t c : Nat) :
    Con Tryz.prog 34 [.ref 0 t 2 l.length, .int .i64 k] ([⟨false, t, 2, l.map TPair.enc⟩]) c fun r H' _ => r = .int .i64 (k + szL cPair l) ∧ H' = [⟨false, t, 2, (mks mkPair cPair k l).map TPair.enc⟩] := by
  have hln := szL_cPair l
  refine con_of c34 (by simp [F34]) ?_
  unfold F34
  simp
  refine loop_drop l.length (fun i e H c' => e 0 = .ref 0 t 2 l.length ∧ e 1 = .int .i64 (k + szL cPair (l.take i)) ∧ e 5 = .int .i64 i ∧ H = [⟨false, t, 2, (mixed mkPair cPair k l i).map TPair.enc⟩]) ⟨rfl, by simp [szL], rfl, by rw [mixed_zero]⟩ ?_
  intro i e H c hi ⟨e0, e1, e5, hH⟩ N hN
  subst hH
  have hs := mixed_set mkPair cPair k l (i := i)
  have hst := fun h : i < l.length => szL_step cPair l h
  have hle := szL_le cPair l i
  have hle1 := szL_le cPair l (i + 1)
  generalize hjj : k + (szL cPair (l.take i) : Int) = j at e1 hs
  simp [e0, e1, e5]
  refine ⟨fun h => ?_, fun h => ?_⟩
  · have hs := hs h
    have hst := hst h
    have hg := mixed_get mkPair cPair k l h
    have hx := szL_mem (sz := cPair) (List.getElem_mem h)
    generalize l[i] = x at hs hst hg hx
    simp only [cPair] at hx hst
    have w0 : IntKind.i64.wrap (j + 1) = j + 1 := wrap64 (by omega) (by omega)
    have w1 : IntKind.i64.wrap (j + 1 + 1) = j + 1 + 1 := wrap64 (by omega) (by omega)
    refine call_fn0 (mtext_fn (by omega)) .str fun _ _ => ?_
    simp [e0, e1, e5, h]
    refine ⟨_, hg, ?_⟩
    simp [e0, e1, e5, h, mixed_len, w0, w1, putA, TPair.enc]
    refine call_fn0 (mtext_fn (by omega)) .str fun _ _ => ?_
    simp [e0, e1, e5, h, mixed_len, w0, w1, putA, TPair.enc]
    refine hN _ _ _ _ h (List.Sublist.refl _) ⟨by simp [upd, e0], ?_, by simp [upd]; exact step64 (by unfold mx; omega) h, ?_⟩
    · simp [upd, w0, w1, hst]; omega
    · rw [← hs, List.map_set]
      simp [mkPair, TPair.enc, w0, w1]
  · have h1 : i = l.length := by omega
    subst h1
    refine fin_all ⟨?_, ?_⟩
    · rw [← hjj]; simp
    · rw [mixed_all]
theorem markPair_con {s : SL TPair} (hz : szL cPair s.list ≤ 16777216) {k : Int} (hk : 0 ≤ k ∧ k ≤ 1099511627776) (c : Nat) :
    Con Tryz.prog 34 [s.ref 2, .int .i64 k] (s.wood 2 TPair.enc noInn) c fun r H' _ => r = .int .i64 (k + szL cPair s.list) ∧ H' = (s.marks mkPair cPair k).wood 2 TPair.enc noInn := by
  cases s with
  | nil =>
    have := markPair_nil k c
    simpa [SL.ref, SL.wood, SL.marks, szL] using this
  | mk t l =>
    have := markPair_con1 (l := l) hz hk t c
    simpa [SL.ref, SL.wood, SL.marks, wood_flat] using this
def TRequest.encO (s : TRequest) : List AV := [.str s.Path, s.Query.ref 2, s.Cookies.ref 2]
def TRequest.inn (s : TRequest) : List AObj := s.Query.wood 2 TPair.enc noInn ++ (s.Cookies.wood 2 TPair.enc noInn)
@[simp] theorem TRequest.lenO (s : TRequest) : s.encO.length = 3 := (rfl)
@[simp] theorem TRequest.allO (s : TRequest) : s.encO.take 3 = s.encO := (rfl)
@[simp] theorem TRequest.o0 (s : TRequest) (K : AV → Prop) : getW s.encO 0 K = K (.str s.Path) := by simp [TRequest.encO]
@[simp] theorem TRequest.o1 (s : TRequest) (K : AV → Prop) : getW s.encO 1 K = K (s.Query.ref 2) := by simp [TRequest.encO]
@[simp] theorem TRequest.o2 (s : TRequest) (K : AV → Prop) : getW s.encO 2 K = K (s.Cookies.ref 2) := by simp [TRequest.encO]
theorem TRequest.freeO : ∀ (x : TRequest) a, a ∈ x.encO → Free a := fun x a ha => by
  simp [TRequest.encO] at ha
  rcases ha with rfl | rfl | rfl
  · exact free_str _
  · exact free_ref _ _
  · exact free_ref _ _
theorem TRequest.freeI : ∀ (x : TRequest) o, o ∈ x.inn → ∀ T, AvRows T o := fun x o ho => by
  simp only [TRequest.inn, List.mem_append] at ho
  rcases ho with ho | ho
  · exact flat_free TPair.flat _ _ o ho
  · exact flat_free TPair.flat _ _ o ho
theorem TRequest.viewO {S : List AObj} (x : TRequest) (h : ∀ o, o ∈ x.inn → o ∈ S) : ∀ (j : Nat) (a a' : AV), x.encO[j]? = some a → x.enc[j]? = some a' → View S a a' := fun j a a' h1 h2 => by
  match j, h1, h2 with
  | 0, h1, h2 => simp [TRequest.encO] at h1; simp [TRequest.enc] at h2; subst h1; subst h2; exact .refl _
  | 1, h1, h2 => simp [TRequest.encO] at h1; simp [TRequest.enc] at h2; subst h1; subst h2; exact view_flat (fun o ho => h o (by simp [TRequest.inn, ho])) TPair.flat.cells
  | 2, h1, h2 => simp [TRequest.encO] at h1; simp [TRequest.enc] at h2; subst h1; subst h2; exact view_flat (fun o ho => h o (by simp [TRequest.inn, ho])) TPair.flat.cells
  | j + 3, h1, h2 => simp [TRequest.encO] at h1
theorem view_ORequest {S : List AObj} {s : SL TRequest} (hs : ∀ o, o ∈ s.wood 3 TRequest.encO TRequest.inn → o ∈ S) : View S (s.ref 3) (s.av 3 TRequest.enc) :=
  view_wood hs (fun x => TRequest.cells x) (fun _ => rfl) fun x h => TRequest.viewO x h
theorem view_ARequest {S : List AObj} {s : TRequest} (hs : ∀ o, o ∈ s.inn → o ∈ S) : View S (.agg s.encO) (.agg s.enc) :=
  .agg rfl (fun j a ha => TRequest.cells s a (List.mem_of_getElem? ha)) (TRequest.viewO s hs)
theorem toRequestO {x : TRequest} (h : x.sz ≤ 1048576) (c : Nat) : Con Tryz.prog 7 [.agg x.enc] [] c fun r O _ => ∃ b : TRequest, r = .agg b.encO ∧ O = b.inn ∧ b.con = x.con := by
  simp only [TRequest.sz] at h
  refine con_of c7 (by simp [F7]) ?_
  unfold F7
  simp [putA]
  refine call_new (toPairSO (by omega) _) (Views.refl _ _) fun r1 O1 c1 hc1 ⟨b1, hr, hO, q1⟩ _ _ => ?_
  subst hr; subst hO
  refine ⟨_, .refl _, free_ref _ _ _, fun o ho => flat_free TPair.flat _ _ o ho _, ?_⟩
  simp [putA]
  refine call_new (toPairSO (by omega) _) (Views.refl _ _) fun r2 O2 c2 hc2 ⟨b2, hr, hO, q2⟩ _ _ => ?_
  subst hr; subst hO
  refine ⟨_, .refl _, free_ref _ _ _, fun o ho => flat_free TPair.flat _ _ o ho _, ?_⟩
  simp [putA]
  refine fin_sub (Hk := b1.wood 2 TPair.enc noInn ++ (b2.wood 2 TPair.enc noInn)) ?_ (.refl _) ⟨⟨x.Path, b1, b2⟩, rfl, by simp [TRequest.inn], by simp [TRequest.con, SL.con, SL.pcon, q1, q2]⟩
  exact ((List.Sublist.refl _).cons _).cons _ |>.cons _
end A
end Go.Proofs.YtmhmaokbicgmbaaGreatDoor

/-
  The objects of a contract stand in no order. No condition.
-/

namespace Go.Proofs.YtmhmaokbicgmbaaGreatDoor
namespace A
set_option linter.unusedVariables false
/-- The objects stand in no order, and some may be let go. -/
theorem con_perm {P : Program} {f : Nat} {args : List AV} {H : List AObj} {c : Nat} {Q Q' : AV → List AObj → Nat → Prop} (h : Con P f args H c Q) (hq : ∀ r H' c', Q r H' c' → ∃ Hs H2, Hs.Sublist H' ∧ H2.Perm Hs ∧ Q' r H2 c') : Con P f args H c Q' := by
  intro G w vs e I hs hr
  refine (h G w vs e I hs hr).mono fun en w' ⟨v, res, H', G', h1, h2, h3, h4, h5⟩ => ?_
  obtain ⟨Hs, H2, hsub, hp, q⟩ := hq _ _ _ h2
  have h3 := h3.drop hsub
  have h4 := h4.drop hsub
  have ht : ∀ t, t ∈ tags H2 ↔ t ∈ tags Hs := fun t => (hp.map _).mem_iff
  refine ⟨v, res, H2, G', h1, q, ⟨h3.x, h3.os, h3.tape, h3.output, h3.size, h3.frame, h3.newm, fun t a b => h3.oldH t a ((ht t).1 b), h3.oldF⟩, ⟨h4.fz, fun o ho => h4.obj o (hp.mem_iff.1 ho), fun t a => h4.nfz t ((ht t).1 a), (hp.map _).nodup_iff.2 h4.nodup, fun t t' a b => h4.inj t t' (a.imp id (ht t).1) (b.imp id (ht t').1), h4.gl⟩, h5⟩

theorem perm_cnt {l m : List AObj} (h : ∀ p : AObj → Bool, l.countP p = m.countP p) : l.Perm m := by
  haveI : DecidableEq AObj := fun a b => Classical.propDecidable (a = b)
  exact List.perm_iff_count.2 fun a => h _
end A
end Go.Proofs.YtmhmaokbicgmbaaGreatDoor
