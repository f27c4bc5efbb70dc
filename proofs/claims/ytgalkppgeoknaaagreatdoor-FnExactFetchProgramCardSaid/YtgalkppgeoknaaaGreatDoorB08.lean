import Derived.Test.YtgalkppgeoknaaaGreatDoorB07

/-
  Numbers, read: strconv.Atoi, and the program's parseWithin and ParseInt. No condition.
-/
set_option linter.unusedVariables false
set_option linter.unusedSimpArgs false
namespace Go.Proofs.YtgalkppgeoknaaaGreatDoor
namespace A
set_option linter.unusedVariables false
set_option linter.unusedSimpArgs false
set_option maxRecDepth 100000
open Go.RowKit
def atoiN (l : List UInt8) : Int := match Lib.atoiAll l with | .ok v => v | .range => Lib.atoiSat l | _ => 0
def atoiE (l : List UInt8) : Bool := match Lib.atoiAll l with | .ok _ => true | _ => false
theorem err_cell {G : Gh} {H : List AObj} {w : World} (I : Inv G H w.heap) {b : Nat} (hb : b = 1 ∨ b = 2) : ∃ ev,w.cell? ⟨b,0,none⟩ = some ev ∧ (ev = .nilIface ∨ ∃ te pe,ev = .iface te pe) := by
  obtain ⟨_,_,hm,hg⟩ := I.gl b (by rcases hb with rfl | rfl <;> decide)
  obtain ⟨c,t,fr,ev,ho,hc,he⟩ := gl_err hb hg
  exact ⟨ev,by unfold World.cell?; simp only [ho]; exact hc,he⟩
theorem atoi_bnd (l : List UInt8) : -9223372036854775808 ≤ atoiN l ∧ atoiN l ≤ 9223372036854775807 := by
  unfold atoiN
  cases h : Lib.atoiAll l with
  | ok v => exact Lib.atoiAll_bounds h
  | range => exact Lib.atoiSat_bounds l
  | _ => exact ⟨(by decide : (-9223372036854775808 : Int) ≤ 0),(by decide : (0 : Int) ≤ 9223372036854775807)⟩
theorem atoi_fn {l : List UInt8} (hl : l.length ≤ 1048576) : Fnc Tryz.prog 229 [.str l] (.tup [.int .i64 (atoiN l),.ifc (atoiE l)]) := by
  intro c
  refine con_below (res := .tup [.int .i64 (atoiN l),.ifc (atoiE l)]) (fun G w vs hc I hs hr => ?_) ⟨rfl,rfl⟩
  obtain ⟨v0,rfl⟩ : ∃ v0,vs = #[v0] := by
    match vs,hs with
    | ⟨[a]⟩,_ => exact ⟨a,rfl⟩
  have h0 := hr 0 _ rfl
  simp at h0
  have hb := atoi_bnd l
  have hi : IOk .i64 (atoiN l) := by
    have e1 : IntKind.i64.min = -9223372036854775808 := by decide
    have e2 : IntKind.i64.max = 9223372036854775807 := by decide
    exact ⟨by omega,by omega⟩
  cases h0 with
  | @str s _ e hl0 =>
  have hsz : s.size ≤ 1048576 := by rw [Lib.size_eq,e]; exact hl
  cases h : Lib.atoiAll l with
  | ok v =>
    have hn : atoiN l = v := by unfold atoiN; rw [h]
    have he : atoiE l = true := by unfold atoiE; rw [h]
    rw [hn,he]
    rw [hn] at hi
    refine (Tryz.strconv_Atoi_ok s (by omega) v (by rw [e]; exact h) w).mono fun e w' ⟨h1,h2⟩ => ⟨_,h1,?_,?_⟩
    · rcases h2 with rfl | ⟨t,rfl⟩
      · exact Below.refl _ _
      · exact Lib.bytesWorld_below _ _ _
    · refine .tup rfl fun j a hj => ?_
      match j,hj with
      | 0,hj => cases hj; exact .int hi
      | 1,hj => cases hj; exact .nilI
  | range =>
    have hn : atoiN l = Lib.atoiSat l := by unfold atoiN; rw [h]
    have he : atoiE l = false := by unfold atoiE; rw [h]
    rw [hn,he]
    rw [hn] at hi
    obtain ⟨ev,hv,hev⟩ := err_cell I (.inr rfl)
    refine (Tryz.strconv_Atoi_range s (by omega) (by rw [e]; exact h) ev w hv hev).mono fun e' w' ⟨B,h1,h2,h3,h4⟩ => ⟨_,h1,h4,?_⟩
    refine .tup rfl fun j a hj => ?_
    match j,hj with
    | 0,hj => cases hj; rw [e]; exact .int hi
    | 1,hj => cases hj; exact .ifc
  | _ =>
    have hn : atoiN l = 0 := by unfold atoiN; rw [h]
    have he : atoiE l = false := by unfold atoiE; rw [h]
    rw [hn,he]
    rw [hn] at hi
    obtain ⟨ev,hv,hev⟩ := err_cell I (.inl rfl)
    refine (Tryz.strconv_Atoi_syntax s (by omega) (by rw [e,h]; intro v hc; cases hc) (by rw [e,h]; intro hc; cases hc) ev w hv hev).mono fun e w' ⟨B,h1,h2,h3,h4⟩ => ⟨_,h1,h4,?_⟩
    refine .tup rfl fun j a hj => ?_
    match j,hj with
    | 0,hj => cases hj; exact .int hi
    | 1,hj => cases hj; exact .ifc
theorem itoa_le {n : Int} (h0 : -9223372036854775808 ≤ n) (h1 : n ≤ 9223372036854775807) : (Lib.itoa n).length ≤ 21 := by
  unfold Lib.itoa
  split
  · have := nDigits_le 19 n.natAbs (by omega)
    rw [List.length_cons,Lib.decDigits_length]; omega
  · have := nDigits_le 19 n.toNat (by omega)
    rw [Lib.decDigits_length]; omega
theorem itoa_all {n : Int} (h0 : -9223372036854775808 ≤ n) (h1 : n ≤ 9223372036854775807) : Fnc Tryz.prog 218 [.int .i64 n] (.str (Lib.itoa n)) := by
  intro c
  refine con_below (res := .str (Lib.itoa n)) (fun G w vs hc I hs hr => ?_) ⟨rfl,rfl⟩
  obtain ⟨v0,rfl⟩ : ∃ v0,vs = #[v0] := by
    match vs,hs with
    | ⟨[a]⟩,_ => exact ⟨a,rfl⟩
  have h2 := hr 0 _ rfl
  simp at h2
  cases h2
  have hl := itoa_le h0 h1
  refine (Tryz.strconv_Itoa n (by omega) h1 w (pow_tab I)).mono fun e w' ⟨h1,k,os,h2⟩ => ⟨_,h1,?_,.str (by simp) (by unfold mx; omega)⟩
  subst h2
  refine ⟨rfl,rfl,rfl,?_,fun j hj => ?_⟩
  · show w.heap.size ≤ (w.heap ++ os).size
    simp
  · show (w.heap ++ os)[j]? = w.heap[j]?
    exact Array.getElem?_append_left hj
def pwOk (l : List UInt8) (lo hi : Int) : Bool := decide (l.length ≤ 20) && atoiE l && decide (Lib.itoa (atoiN l) = l) && decide (lo ≤ atoiN l) && decide (atoiN l ≤ hi)
theorem pw_fn {l : List UInt8} {lo hi : Int} (hl : l.length ≤ 1048576) : Fnc Tryz.prog 220 [.str l,.int .i64 lo,.int .i64 hi] (.tup [.int .i64 (if pwOk l lo hi then atoiN l else 0),.bool (pwOk l lo hi)]) := by
  refine fn_of c220 (by simp [F220]) fun c => ?_
  unfold F220
  by_cases h1 : l.length ≤ 20
  rotate_left
  · have k1 : (20 : Int) < l.length := by omega
    simp [k1]
    exact fin_plain ⟨by simp [pwOk,h1],rfl⟩
  have k1 : ¬ ((20 : Int) < l.length) := by omega
  simp [k1]
  refine call_fn0 (atoi_fn hl) (.tup (by intro j a hj; match j,hj with | 0,hj => cases hj; exact .int | 1,hj => cases hj; exact .ifc)) fun _ _ => ?_
  cases h2 : atoiE l
  · simp
    exact fin_plain ⟨by simp [pwOk,h2],rfl⟩
  simp
  obtain ⟨b0,b1⟩ := atoi_bnd l
  refine call_fn0 (itoa_all b0 b1) .str fun _ _ => ?_
  by_cases h3 : Lib.itoa (atoiN l) = l
  rotate_left
  · simp [h3]
    exact fin_plain ⟨by simp [pwOk,h3],rfl⟩
  by_cases h4 : lo ≤ atoiN l
  rotate_left
  · have k4 : atoiN l < lo := by omega
    simp [h3,k4]
    exact fin_plain ⟨by simp [pwOk,h4],rfl⟩
  have k4 : ¬ (atoiN l < lo) := by omega
  by_cases h5 : atoiN l ≤ hi
  rotate_left
  · have k5 : hi < atoiN l := by omega
    simp [h3,k4,k5]
    exact fin_plain ⟨by simp [pwOk,h5],rfl⟩
  have k5 : ¬ (hi < atoiN l) := by omega
  simp [h3,k4,k5]
  exact fin_plain ⟨by simp [pwOk,h1,h2,h3,h4,h5],rfl⟩
theorem parseInt_fn {l : List UInt8} (hl : l.length ≤ 1048576) : Fnc Tryz.prog 221 [.str l] (.tup [.int .i64 (if pwOk l 0 1000000000000 then atoiN l else 0),.bool (pwOk l 0 1000000000000)]) := by
  refine fn_of c221 (by simp [F221]) fun c => ?_
  unfold F221
  simp
  refine call_fn0 (pw_fn hl) (.tup (by intro j a hj; match j,hj with | 0,hj => cases hj; exact .int | 1,hj => cases hj; exact .bool)) fun _ _ => ?_
  simp
  exact fin_plain ⟨rfl,rfl⟩
set_option maxRecDepth 100000
theorem inR_dgt (b : UInt8) : inR b.toNat 48 57 = dgt b := by
  unfold inR dgt
  congr 1 <;> exact decide_eq_decide.2 (by omega)
theorem specInt_all {l : List UInt8} (hl : l.length ≤ mx) : Fnc Tryz.prog 224 [.str l] (.tup [.int .i64 (if pn13 l then (dvl l 0 : Int) else 0),.bool (pn13 l)]) := by
  refine fn_of c224 (by simp [F224]) fun c => ?_
  unfold F224
  simp
  refine call_fn0 (l1In_fn _ _ _) .bool fun _ _ => ?_
  cases hin : inR l.length 1 13
  · have : pn13 l = false := by
      have h : ¬ (1 ≤ l.length ∧ l.length ≤ 13) := fun ⟨h1,h2⟩ => by
        have : inR l.length 1 13 = true := by simp [inR]; omega
        rw [hin] at this; cases this
      unfold pn13
      simp; omega
    simp
    exact fin_plain ⟨by simp [this],rfl⟩
  have hlen : 1 ≤ l.length ∧ l.length ≤ 13 := by have := inR_true hin; omega
  simp
  refine loop_drop l.length (fun i e H c' => e 0 = .str l ∧ e 4 = .int .i64 (dvl (l.take i) 0) ∧ e 5 = .int .i64 i ∧ (l.take i).all dgt = true ∧ H = []) ⟨rfl,by simp [upd,dvl],rfl,by simp,rfl⟩ ?_
  intro i e H c' hi ⟨e0,e4,e5,hall,hH⟩ N hN
  subst hH
  have hbd := dvl_le (l.take i) 0 hall
  have hbd2 : dvl (l.take i) 0 < 10000000000000 := by
    have : 10 ^ (l.take i).length ≤ 10 ^ 13 := Nat.pow_le_pow_right (by omega) (by simp; omega)
    omega
  by_cases h : i < l.length
  · have hx : l[i]? = some l[i] := List.getElem?_eq_getElem (by omega)
    have htk : l.take (i + 1) = l.take i ++ [l[i]] := List.take_succ_eq_append_getElem (by omega)
    generalize l[i] = b at hx htk
    have hstep : IntKind.i64.wrap ((i : Int) + 1) = ((i + 1 : Nat) : Int) := by rw [wrap64 (by omega) (by omega)]; rfl
    have hbl := b.toNat_lt
    simp [e0,e4,e5,h,getW_of hx,wrap_b]
    refine call_fn0 (l1In_fn _ _ _) .bool fun _ _ => ?_
    have bad : dgt b = false → pn13 l = false := fun hb => by
      have : l.all dgt = false := by
        rw [List.all_eq_false]
        exact ⟨b,List.mem_of_getElem? hx,by simp [hb]⟩
      unfold pn13; rw [this]; simp
    rw [inR_dgt]
    cases hb : dgt b
    · simp [e0,e4,e5]
      have := bad hb
      exact fin_plain ⟨by simp [this],rfl⟩
    have hb' := hb
    simp only [dgt,Bool.and_eq_true,decide_eq_true_eq] at hb'
    generalize hD : dvl (l.take i) 0 = D at e4 hbd2
    have hw1 : IntKind.i64.wrap (10 * (D : Int)) = ((10 * D : Nat) : Int) := by rw [wrap64 (by omega) (by omega)]; omega
    have hw2 : IntKind.u8.wrap ((b.toNat : Int) - 48) = ((b.toNat - 48 : Nat) : Int) := by rw [IntKind.wrap_u8]; omega
    have hw3 : IntKind.i64.wrap ((b.toNat - 48 : Nat) : Int) = ((b.toNat - 48 : Nat) : Int) := wrap64 (by omega) (by omega)
    have hw4 : IntKind.i64.wrap (((10 * D : Nat) : Int) + ((b.toNat - 48 : Nat) : Int)) = ((10 * D + (b.toNat - 48) : Nat) : Int) := by rw [wrap64 (by omega) (by omega)]; omega
    simp [e0,e4,e5,h,getW_of hx,hw1,hw2,hw3,hw4,hstep,-Int.natCast_add,-Int.natCast_mul]
    exact hN _ _ _ _ h (List.Sublist.refl _) ⟨by simp [upd,e0],by simp [upd,htk,dvl_app,hD,dvl,-Int.natCast_add,-Int.natCast_mul],by simp [upd,-Int.natCast_add],by rw [htk,List.all_append,hall]; simp [hb],rfl⟩
  · have hie : i = l.length := by omega
    subst hie
    rw [List.take_length] at e4 hall hbd2
    by_cases hk : dvl l 0 ≤ 1000000000000
    rotate_left
    · have hk' : (1000000000000 : Int) < (dvl l 0 : Int) := by omega
      have : pn13 l = false := by unfold pn13; simp [hk]
      simp [e0,e4,e5,hk']
      exact fin_plain ⟨by simp [this],rfl⟩
    have hk' : ¬ ((1000000000000 : Int) < (dvl l 0 : Int)) := by omega
    simp [e0,e4,e5,hk']
    refine call_fn0 (specFmt_fn (n := dvl l 0) (by omega)) .str fun _ _ => ?_
    by_cases hf : Lib.decDigits (dvl l 0) = l
    · have : pn13 l = true := by unfold pn13; simp [hall,hf,hk,hlen.2]; omega
      simp [e0,e4,e5,hf]
      exact fin_plain ⟨by simp [this],rfl⟩
    · have : pn13 l = false := by unfold pn13; simp [hf]
      simp [e0,e4,e5,hf]
      exact fin_plain ⟨by simp [this],rfl⟩
theorem free_ib (n : Int) (b : Bool) {T : List Nat} : Av T (.tup [.int .i64 n,.bool b]) := .tup fun j a hj => by
  match j,hj with
  | 0,hj => cases hj; exact .int
  | 1,hj => cases hj; exact .bool
theorem specSigned_fn {l : List UInt8} (hl : l.length ≤ mx) : Fnc Tryz.prog 209 [.str l] (.tup [.int .i64 ((sgS l).getD 0),.bool (sgS l).isSome]) := by
  refine fn_of c209 (by simp [F209]) fun c => ?_
  unfold F209
  have go : ∀ b : Bool,sgNeg l = b → (b = true → ∃ r,l = 45 :: r) → (b = false → sgBody l = l) := fun b h1 h2 h3 => by subst h3; unfold sgBody; rw [h1]; rfl
  cases hl0 : l with
  | nil =>
    subst hl0
    have hn : sgS [] = none := by decide
    simp
    refine call_fn0 (specInt_all (l := []) (by decide)) (free_ib _ _) fun _ _ => ?_
    have : pn13 [] = false := by decide
    simp [this]
    exact fin_plain ⟨by rw [hn]; rfl,rfl⟩
  | cons b r =>
    subst hl0
    have hpos : (0 : Int) < ((r.length : Int) + 1) := by omega
    have hrl : r.length ≤ mx := by simp at hl; omega
    have hb255 := b.toNat_lt
    by_cases hb : b = 45
    · subst hb
      have e1 : sgNeg (45 :: r) = true := rfl
      have e2 : sgBody (45 :: r) = r := rfl
      have hS : sgS (45 :: r) = if pn13 r && decide (dvl r 0 ≤ 1000000000) && !decide (dvl r 0 = 0) then some (-(dvl r 0 : Int)) else none := by
        unfold sgS; rw [e1,e2]; simp
      simp [hpos]
      refine call_fn0 (specInt_all hrl) (free_ib _ _) fun _ _ => ?_
      cases hp : pn13 r
      · rw [hp] at hS
        simp
        exact fin_plain ⟨by rw [hS]; rfl,rfl⟩
      rw [hp] at hS
      by_cases h2 : dvl r 0 ≤ 1000000000
      rotate_left
      · have k2 : (1000000000 : Int) < (dvl r 0 : Int) := by omega
        simp [k2]
        exact fin_plain ⟨by rw [hS]; simp [h2],rfl⟩
      have k2 : ¬ ((1000000000 : Int) < (dvl r 0 : Int)) := by omega
      by_cases h3 : dvl r 0 = 0
      · simp [k2,h3]
        exact fin_plain ⟨by rw [hS]; simp [h3],rfl⟩
      have hw : IntKind.i64.wrap (-(dvl r 0 : Int)) = -(dvl r 0 : Int) := wrap64 (by omega) (by omega)
      simp [k2,h3,hw]
      exact fin_plain ⟨by rw [hS]; simp [h2,h3],rfl⟩
    · have hbn : ¬ (b.toNat : Int) = 45 := fun h => hb (UInt8.toNat_inj.1 (by rw [show (45 : UInt8).toNat = 45 from rfl]; omega))
      have e1 : sgNeg (b :: r) = false := by unfold sgNeg; simp [hb]
      have e2 : sgBody (b :: r) = b :: r := by unfold sgBody; rw [e1]; rfl
      have hS : sgS (b :: r) = if pn13 (b :: r) && decide (dvl (b :: r) 0 ≤ 1000000000) then some (dvl (b :: r) 0 : Int) else none := by
        unfold sgS; rw [e1,e2]; simp
      simp [hpos,hbn]
      refine call_fn0 (specInt_all (l := b :: r) hl) (free_ib _ _) fun _ _ => ?_
      generalize b :: r = l at hS ⊢
      cases hp : pn13 l
      · rw [hp] at hS
        simp
        exact fin_plain ⟨by rw [hS]; rfl,rfl⟩
      rw [hp] at hS
      by_cases h2 : dvl l 0 ≤ 1000000000
      rotate_left
      · have k2 : (1000000000 : Int) < (dvl l 0 : Int) := by omega
        simp [k2,hbn]
        exact fin_plain ⟨by rw [hS]; simp [h2],rfl⟩
      have k2 : ¬ ((1000000000 : Int) < (dvl l 0 : Int)) := by omega
      simp [k2,hbn]
      exact fin_plain ⟨by rw [hS]; simp [h2],rfl⟩
theorem pw_sg (l : List UInt8) : (if pwOk l (-1000000000) 1000000000 then atoiN l else 0) = (sgS l).getD 0 ∧ pwOk l (-1000000000) 1000000000 = (sgS l).isSome := by
  have key : ∀ n,(pwOk l (-1000000000) 1000000000 = true ∧ atoiN l = n) ↔ sgS l = some n := fun n => by
    rw [sgS_iff]
    constructor
    · rintro ⟨h,rfl⟩
      simp only [pwOk,Bool.and_eq_true,decide_eq_true_eq] at h
      exact ⟨h.1.1.2,h.1.2,h.2⟩
    · rintro ⟨rfl,h0,h1⟩
      have ha := atoi_itoa (n := n) (by omega) (by omega)
      have hn : atoiN (Lib.itoa n) = n := by unfold atoiN; rw [ha]
      have he : atoiE (Lib.itoa n) = true := by unfold atoiE; rw [ha]
      have hlen : (Lib.itoa n).length ≤ 20 := by
        unfold Lib.itoa
        split
        · have := dd_len (m := n.natAbs) (k := 13) (by omega) (by omega); rw [List.length_cons]; omega
        · have := dd_len (m := n.toNat) (k := 13) (by omega) (by omega); omega
      exact ⟨by unfold pwOk; rw [hn,he]; simp [hlen,h0,h1],hn⟩
  cases hs : sgS l with
  | some n =>
    obtain ⟨h1,h2⟩ := (key n).2 hs
    rw [h1,h2]; exact ⟨rfl,rfl⟩
  | none =>
    cases hp : pwOk l (-1000000000) 1000000000 with
    | false => exact ⟨rfl,rfl⟩
    | true =>
      have := (key _).1 ⟨hp,rfl⟩
      rw [hs] at this; cases this
theorem implSigned_fn {l : List UInt8} (hl : l.length ≤ 1048576) : Fnc Tryz.prog 200 [.str l] (.tup [.int .i64 ((sgS l).getD 0),.bool (sgS l).isSome]) := by
  obtain ⟨h1,h2⟩ := pw_sg l
  refine fn_of c200 (by simp [F200]) fun c => ?_
  unfold F200
  simp
  refine call_fn0 (pw_fn hl) (free_ib _ _) fun _ _ => ?_
  rw [h1,h2]
  simp
  exact fin_plain ⟨rfl,rfl⟩
theorem implFmtI_fn {n : Int} (h0 : -1000000000000000000 ≤ n) (h1 : n ≤ 1000000000000000000) : Fnc Tryz.prog 192 [.int .i64 n] (.str (Lib.itoa n)) := by
  refine fn_of c192 (by simp [F192]) fun c => ?_
  unfold F192
  simp
  refine call_fn0 (itoa_all (by omega) (by omega)) .str fun _ _ => ?_
  simp
  exact fin_plain ⟨rfl,rfl⟩
set_option maxRecDepth 100000
theorem TValue.ind2 {p : TValue → Prop} (h : ∀ v : TValue,(∀ e,e ∈ v.Items.list → p e.2) → p v) : ∀ v,p v := TValue.ind fun k n s x I ih => h _ ih
theorem impl_isKey {k : TKey} (hk : k.Str.length ≤ 1048576) : Fnc Tryz.prog 190 [.agg k.enc] (.bool (isKey k)) := by
  refine fn_of c190 (by simp [F190]) fun c => ?_
  unfold F190
  cases hT : k.Text
  · by_cases h1 : k.Str = []
    · simp [hT,h1]
      refine call_fn0 (inRange_fn _ _ _) .bool fun _ _ => ?_
      simp
      exact fin_plain ⟨by simp [isKey,hT,h1],rfl⟩
    · simp [hT,h1]
      exact fin_plain ⟨by simp [isKey,hT,h1],rfl⟩
  · simp [hT]
    refine call_fn0 (implSigned_fn hk) (free_ib _ _) fun _ _ => ?_
    by_cases h1 : k.Num = 0
    · by_cases h2 : k.Str.length ≤ 400
      · have h2' : (k.Str.length : Int) ≤ 400 := by omega
        simp [h1,h2']
        exact fin_plain ⟨by simp [isKey,hT,h1,h2],rfl⟩
      · have h2' : ¬ (k.Str.length : Int) ≤ 400 := by omega
        simp [h1,h2']
        exact fin_plain ⟨by simp [isKey,hT,h1,h2],rfl⟩
    · simp [h1]
      exact fin_plain ⟨by simp [isKey,hT,h1],rfl⟩
theorem spec_isKey {k : TKey} (hk : k.Str.length ≤ 1048576) : Fnc Tryz.prog 176 [.agg k.enc] (.bool (isKey k)) := by
  refine fn_of c176 (by simp [F176]) fun c => ?_
  unfold F176
  cases hT : k.Text
  · simp [hT]
    refine call_fn0 (l1In_fn _ _ _) .bool fun _ _ => ?_
    cases h2 : inR k.Num (-1000000000) 1000000000
    · simp
      exact fin_plain ⟨by simp [isKey,hT,h2],rfl⟩
    · simp
      exact fin_plain ⟨by simp [isKey,hT,h2],rfl⟩
  · simp [hT]
    refine call_fn0 (specSigned_fn (by unfold mx; omega)) (free_ib _ _) fun _ _ => ?_
    by_cases h1 : k.Num = 0
    · by_cases h2 : k.Str.length ≤ 400
      · have h2' : (k.Str.length : Int) ≤ 400 := by omega
        simp [h1,h2']
        exact fin_plain ⟨by simp [isKey,hT,h1,h2],rfl⟩
      · have h2' : ¬ (k.Str.length : Int) ≤ 400 := by omega
        simp [h1,h2']
        exact fin_plain ⟨by simp [isKey,hT,h1,h2],rfl⟩
    · simp [h1]
      exact fin_plain ⟨by simp [isKey,hT,h1],rfl⟩
theorem items_len (v : TValue) : v.Items.list.length ≤ v.sz := by rw [TValue.sz_eq]; omega
theorem items_sz {v : TValue} {e : TKey × TValue} (he : e ∈ v.Items.list) : e.1.Str.length + e.2.sz ≤ v.sz := by
  have := szL_mem (sz := szE) he
  have h2 : szE e = e.1.Str.length + e.2.sz := rfl
  rw [TValue.sz_eq v]; omega
theorem wt_arr {v : TValue} (h : v.Kind = 4) : v.wt = 1 + szL wtE v.Items.list := by rw [TValue.wt_eq,if_pos h]
theorem wt_one {v : TValue} (h : v.Kind ≠ 4) : v.wt = 1 := by rw [TValue.wt_eq,if_neg h]
theorem impl_weight : ∀ v : TValue,v.sz ≤ 1099511627776 → Fnc Tryz.prog 153 [.agg v.enc] (.int .i64 v.wt) := by
  refine TValue.ind2 (p := fun v => v.sz ≤ 1099511627776 → Fnc Tryz.prog 153 [.agg v.enc] (.int .i64 v.wt)) fun v ih hz => ?_
  refine fn_of c153 (by simp [F153]) fun c => ?_
  unfold F153
  by_cases h4 : v.Kind = 4
  rotate_left
  · simp [h4]
    exact fin_plain ⟨by rw [wt_one h4]; rfl,rfl⟩
  have hwt := wt_arr h4
  have hwl := TValue.wt_le v
  have hil := items_len v
  simp [h4]
  refine loop_drop v.Items.list.length (fun i e H c' => e 3 = .int .i64 ((1 + szL wtE (v.Items.list.take i) : Nat) : Int) ∧ e 10 = v.Items.av 8 encE ∧ e 11 = .int .i64 v.Items.list.length ∧ e 12 = .int .i64 i ∧ H = [⟨false,c,5,[v.enc]⟩]) ⟨by simp [upd,szL],by simp [upd],by simp [upd],by simp [upd],rfl⟩ ?_
  intro i e H c' hi ⟨e3,e10,e11,e12,hH⟩ N hN
  subst hH
  by_cases h : i < v.Items.list.length
  · have hx : v.Items.list[i]? = some v.Items.list[i] := List.getElem?_eq_getElem h
    have hst := szL_step wtE v.Items.list h
    have hle := szL_le wtE v.Items.list (i + 1)
    have hxm : v.Items.list[i] ∈ v.Items.list := List.getElem_mem h
    generalize v.Items.list[i] = x at hx hst hxm
    have hwx : wtE x = x.2.wt := rfl
    have hw : IntKind.i64.wrap (((1 + szL wtE (v.Items.list.take i) : Nat) : Int) + (x.2.wt : Int)) = ((1 + szL wtE (v.Items.list.take (i + 1)) : Nat) : Int) := by rw [wrap64 (by omega) (by omega)]; omega
    simp [e3,e10,e11,e12,h,getW_of hx,-Int.natCast_add]
    refine call_fn0 (ih x hxm (by have := items_sz hxm; omega)) .int fun _ _ => ?_
    simp [e3,e10,e11,e12,h,hw,-Int.natCast_add]
    exact hN _ _ [_] _ h (by simp) ⟨by simp [upd],by simp [upd,e10],by simp [upd,e11],by simp [upd]; exact step64 (by unfold mx; omega) h,rfl⟩
  · have hie : i = v.Items.list.length := by omega
    subst hie
    simp [e3,e10,e11,e12,-Int.natCast_add]
    exact fin_plain ⟨by rw [hwt],rfl⟩
theorem spec_weigh : ∀ v : TValue,v.sz ≤ 1099511627776 → ∀ most : Nat,most ≤ 200 → Tr Tryz.prog 137 [.agg v.enc,.int .i64 most] fun _ r => ∃ n : Nat,r = .int .i64 n ∧ n ≤ v.wt ∧ (v.wt ≤ most → n = v.wt) ∧ (most < v.wt → most < n) := by
  refine TValue.ind2 (p := fun v => v.sz ≤ 1099511627776 → ∀ most : Nat,most ≤ 200 → Tr Tryz.prog 137 [.agg v.enc,.int .i64 most] fun _ r => ∃ n : Nat,r = .int .i64 n ∧ n ≤ v.wt ∧ (v.wt ≤ most → n = v.wt) ∧ (most < v.wt → most < n)) fun v ih hz most hm => ?_
  intro c
  refine con_of c137 (by simp [F137]) ?_
  unfold F137
  by_cases h4 : v.Kind = 4
  rotate_left
  · simp
    refine loop_drop 0 (fun i e H c' => e 2 = .ptr 0 c 5 0 0 ∧ e 5 = .int .i64 1 ∧ H = [⟨false,c,5,[v.enc]⟩]) ⟨by simp [upd],by simp [upd],rfl⟩ ?_
    intro i e H c' hi ⟨e2,e5,hH⟩ N hN
    subst hH
    simp [e2,e5,h4]
    exact fin_plain ⟨rfl,⟨1,rfl,by rw [wt_one h4]; exact ⟨Nat.le_refl _,fun _ => rfl,fun h => h⟩⟩,by simp⟩
  have hwt := wt_arr h4
  have hwl := TValue.wt_le v
  have hil := items_len v
  simp
  refine loop_drop v.Items.list.length (fun i e H c' => ∃ n : Nat,e 1 = .int .i64 most ∧ e 2 = .ptr 0 c 5 0 0 ∧ e 5 = .int .i64 n ∧ e 6 = .int .i64 i ∧ n ≤ 1 + szL wtE (v.Items.list.take i) ∧ (1 + szL wtE (v.Items.list.take i) ≤ most → n = 1 + szL wtE (v.Items.list.take i)) ∧ (most < 1 + szL wtE (v.Items.list.take i) → most < n) ∧ H = [⟨false,c,5,[v.enc]⟩]) ⟨1,by simp [upd],by simp [upd],by simp [upd],by simp [upd],by simp [szL],by simp [szL],by simp [szL],rfl⟩ ?_
  intro i e H c' hi ⟨n,e1,e2,e5,e6,hn,hn1,hn2,hH⟩ N hN
  subst hH
  have hle0 := szL_le wtE v.Items.list i
  by_cases h : i < v.Items.list.length
  · have hx : v.Items.list[i]? = some v.Items.list[i] := List.getElem?_eq_getElem h
    have hst := szL_step wtE v.Items.list h
    have hle := szL_le wtE v.Items.list (i + 1)
    have hxm : v.Items.list[i] ∈ v.Items.list := List.getElem_mem h
    generalize v.Items.list[i] = x at hx hst hxm
    have hwx : wtE x = x.2.wt := rfl
    by_cases hle2 : n ≤ most
    · have hle2' : (n : Int) ≤ (most : Int) := by omega
      have hw1 : IntKind.i64.wrap ((most : Int) - (n : Int)) = ((most - n : Nat) : Int) := by rw [wrap64 (by omega) (by omega)]; omega
      simp [e1,e2,e5,e6,h4,h,hle2,getW_of hx,hw1]
      refine call_tree0 (ih x hxm (by have := items_sz hxm; omega) (most - n) (by omega)) fun r c2 _ ⟨m,hr,m1,m2,m3⟩ _ => ?_
      subst hr
      have hw : IntKind.i64.wrap ((n : Int) + (m : Int)) = ((n + m : Nat) : Int) := by rw [wrap64 (by omega) (by omega)]; omega
      simp [e1,e2,e5,e6,hw,-Int.natCast_add]
      exact hN _ _ [_] _ h (by simp) ⟨n + m,by simp [upd,e1],by simp [upd,e2],by simp [upd],by simp [upd]; exact step64 (by unfold mx; omega) h,by omega,by omega,by omega,rfl⟩
    · have hle2' : ¬ (n : Int) ≤ (most : Int) := by omega
      simp [e1,e2,e5,e6,h4,h,hle2]
      exact fin_plain ⟨rfl,⟨n,rfl,by omega,by omega,by omega⟩,by simp⟩
  · have hie : i = v.Items.list.length := by omega
    subst hie
    rw [List.take_length] at hn hn1 hn2
    simp [e1,e2,e5,e6,h4]
    exact fin_plain ⟨rfl,⟨n,rfl,by omega,by omega,by omega⟩,by simp⟩
def seenK (l : List TKey) : List (List AV) := l.map fun k => [.agg k.enc,.bool true]
theorem keyEq_k (a b : TKey) : keyEq (.agg a.enc) (.agg b.enc) = some (decide (a = b)) := by
  obtain ⟨a1,a2,a3⟩ := a
  obtain ⟨b1,b2,b3⟩ := b
  simp only [TKey.enc,keyEq,if_true,dec_beq,TKey.mk.injEq]
  congr 1
  by_cases h1 : a1 = b1 <;> by_cases h2 : a2 = b2 <;> by_cases h3 : a3 = b3 <;> simp [h1,h2,h3]
theorem mfK_no {k : TKey} : ∀ (l : List TKey) (i : Nat),k ∉ l → mfind (.agg k.enc) (seenK l) i = some none
  | [],_,_ => rfl
  | p :: l,i,h => by
    simp only [List.mem_cons,not_or] at h
    simp only [seenK,List.map_cons,mfind,keyEq_k,h.1,decide_false]
    exact mfK_no l (i + 1) h.2
theorem mfK_yes {k : TKey} : ∀ (l : List TKey) (i : Nat),k ∈ l → ∃ j,mfind (.agg k.enc) (seenK l) i = some (some (j,.bool true))
  | [],_,h => by simp at h
  | p :: l,i,h => by
    by_cases hk : k = p
    · exact ⟨i,by simp only [seenK,List.map_cons,mfind,keyEq_k,hk,decide_true]⟩
    · simp only [List.mem_cons] at h
      obtain ⟨j,h1⟩ := mfK_yes l (i + 1) (h.resolve_left hk)
      exact ⟨j,by simp only [seenK,List.map_cons,mfind,keyEq_k,hk,decide_false]; exact h1⟩
theorem seenK_len (l : List TKey) : (seenK l).length = l.length := by simp [seenK]
theorem seenK_snoc (l : List TKey) (k : TKey) : seenK l ++ [[.agg k.enc,.bool true]] = seenK (l ++ [k]) := by simp [seenK]
theorem gd_scalar {v : TValue} (h4 : v.Kind ≠ 4) (hs : v.Kind ≠ 3 → v.Str = []) (hx : v.Next = 0 ∧ v.Items.list = []) : v.gd ↔ 0 ≤ v.Kind ∧ v.Kind ≤ 8 ∧ v.Kind ≠ 5 ∧ (v.Kind = 0 → v.Num = 0) ∧ (v.Kind = 1 → v.Num = 0 ∨ v.Num = 1) ∧ (v.Kind = 2 → inR v.Num (-1000000000) 1000000000 = true) ∧ (v.Kind = 3 → v.Num = 0 ∧ v.Str.length ≤ 400) ∧ (v.Kind = 6 ∨ v.Kind = 7 ∨ v.Kind = 8 → inR v.Num 0 255 = true) := by
  rw [gd_iff]
  exact ⟨fun h => ⟨h.k0,h.k8,h.k5,h.n0,h.n1,h.n2,h.n3,h.n6⟩,fun ⟨a,b,c,d,e,f,g,h⟩ => ⟨a,b,c,hs,fun _ => hx,d,e,f,g,h,fun k => absurd k h4,fun k => absurd k h4,fun k => absurd k h4,fun k => absurd k h4,fun k => absurd k h4⟩⟩
theorem gd_arr {v : TValue} (h4 : v.Kind = 4) (hs : v.Str = []) : v.gd ↔ v.Num = 0 ∧ inR v.Next 0 1000000001 = true ∧ (v.Items.list.map Prod.fst).Nodup ∧ (∀ e,e ∈ v.Items.list → isKey e.1 = true ∧ (e.1.Text = false → e.1.Num < v.Next) ∧ e.2.gd) := by
  rw [gd_iff]
  constructor
  · intro h
    exact ⟨h.a0 h4,h.a1 h4,h.a2 h4,fun e he => ⟨(h.a3 h4 e he).1,(h.a3 h4 e he).2,h.a4 h4 e he⟩⟩
  · rintro ⟨a,b,c,d⟩
    exact ⟨by omega,by omega,by omega,fun _ => hs,fun k => absurd h4 k,by omega,by omega,by omega,by omega,by omega,fun _ => a,fun _ => b,fun _ => c,fun _ e he => ⟨(d e he).1,(d e he).2.1⟩,fun _ e he => (d e he).2.2⟩
def firstAt {α : Type} [DecidableEq α] (s : α) : List α → Nat → Int
  | [],_ => -1
  | x :: l,i => if x = s then i else firstAt s l (i + 1)
theorem firstAt_go {α : Type} [DecidableEq α] {s : α} {l : List α} {i : Nat} {x : α} (hx : l[i]? = some x) : firstAt s (l.drop i) i = if x = s then (i : Int) else firstAt s (l.drop (i + 1)) (i + 1) := by
  obtain ⟨hi,rfl⟩ := List.getElem?_eq_some_iff.1 hx
  rw [List.drop_eq_getElem_cons hi]; rfl
theorem firstAt_first {α : Type} [DecidableEq α] {s : α} : ∀ (l : List α) (i k : Nat),l[k]? = some s → s ∉ l.take k → firstAt s l i = ((i + k : Nat) : Int)
  | [],_,_,h,_ => by simp at h
  | x :: l,i,0,h,_ => by simp at h; simp [firstAt,h]
  | x :: l,i,k + 1,h,hn => by
    simp at h hn
    rw [firstAt,if_neg (fun e => hn.1 e.symm),firstAt_first l (i + 1) k h hn.2]
    congr 1; omega
theorem firstAt_less {α : Type} [DecidableEq α] {s : α} : ∀ (l : List α) (i k : Nat),s ∈ l.take k → firstAt s l i < ((i + k : Nat) : Int)
  | [],_,_,h => by simp at h
  | x :: l,i,0,h => by simp at h
  | x :: l,i,k + 1,h => by
    rw [firstAt]
    split
    · omega
    · rename_i hne
      simp only [List.take_succ_cons,List.mem_cons] at h
      have := firstAt_less l (i + 1) k (h.resolve_left fun e => hne e.symm)
      omega
theorem eqKeyC (a b : TKey) : eqCells a.enc b.enc = some (decide (a = b)) := by
  obtain ⟨a1,a2,a3⟩ := a
  obtain ⟨b1,b2,b3⟩ := b
  simp only [TKey.enc,eqCells,keyEq,TKey.mk.injEq]
  cases h1 : (a1 == b1) <;> cases h2 : (a2 == b2) <;> cases h3 : (a3 == b3) <;> simp only [beq_iff_eq,beq_eq_false_iff_ne] at h1 h2 h3 <;> simp [h1,h2,h3]
@[simp high] theorem beqK (neg : Bool) (a b : TKey) (K : AV → Prop) : beqW' neg [2,0,1] (.agg a.enc) (.agg b.enc) K = K (.bool (decide (a = b) != neg)) := by
  unfold beqW'
  have e : fitsK [2,0,1] a.enc = true := by simp [TKey.enc,fitsK]
  simp only [e,eqKeyC,true_and]
theorem l5Find_fn {v : TValue} (h4 : v.Kind = 4) (hn : v.Items.list.length ≤ 1048576) (k : TKey) : Fnc Tryz.prog 177 [.agg v.enc,.agg k.enc] (.int .i64 (firstAt k (v.Items.list.map Prod.fst) 0)) := by
  refine fn_of c177 (by simp [F177]) fun c => ?_
  unfold F177
  simp
  refine loop_drop v.Items.list.length (fun i e H c' => e 2 = .ptr 0 c 5 0 0 ∧ e 3 = .ptr 1 (c + 1) 3 0 0 ∧ e 5 = .int .i64 i ∧ firstAt k (v.Items.list.map Prod.fst) 0 = firstAt k ((v.Items.list.map Prod.fst).drop i) i ∧ H = [⟨false,c,5,[v.enc]⟩,⟨false,c + 1,3,[k.enc]⟩]) ⟨by simp [upd],by simp [upd],by simp [upd],by simp,rfl⟩ ?_
  intro i e H c' hi ⟨e2,e3,e5,hd,hH⟩ N hN
  subst hH
  by_cases h : i < v.Items.list.length
  · obtain ⟨x,hx⟩ : ∃ x,v.Items.list[i]? = some x := ⟨_,List.getElem?_eq_getElem h⟩
    have hkx : (v.Items.list.map Prod.fst)[i]? = some x.1 := by simp [hx]
    rw [firstAt_go hkx] at hd
    by_cases hxs : x.1 = k
    · simp [e2,e3,e5,h4,h,getW_of hx,hxs,-beqW'_agg]
      rw [hd,if_pos hxs]
      exact fin_plain ⟨rfl,rfl⟩
    · simp [e2,e3,e5,h4,h,getW_of hx,hxs,-beqW'_agg]
      rw [if_neg hxs] at hd
      exact hN _ _ _ _ h (List.Sublist.refl _) ⟨by simp [upd,e2],by simp [upd,e3],by simp [upd]; exact step64 (by unfold mx; omega) h,hd,rfl⟩
  · have hie : i = v.Items.list.length := by omega
    subst hie
    simp [e2,e3,e5,h4]
    rw [hd,List.drop_of_length_le (by simp)]
    exact fin_plain ⟨rfl,rfl⟩
set_option maxRecDepth 100000
set_option maxHeartbeats 4000000 in
theorem impl_wf0 (v : TValue) (h4 : ¬ (v.Kind = 4 ∧ v.Str = [])) : Fnc Tryz.prog 154 [.agg v.enc] (.bool (pdec v.gd)) := by
  refine fn_of c154 (by simp [F154]) fun c => ?_
  unfold F154
  by_cases hs : v.Kind ≠ 3 ∧ v.Str ≠ []
  · simp [hs.1,hs.2]
    exact fin_plain ⟨by rw [pdec_false fun h => hs.2 (((gd_iff v).1 h).s3 hs.1)],rfl⟩
  have hs3 : v.Kind ≠ 3 → v.Str = [] := fun h => Classical.byContradiction fun h2 => hs ⟨h,h2⟩
  by_cases hx : v.Kind ≠ 4 ∧ (v.Next ≠ 0 ∨ v.Items.list ≠ [])
  · have no : ¬ v.gd := fun h => by
      have := ((gd_iff v).1 h).x4 hx.1
      rcases hx.2 with h2 | h2
      · exact h2 this.1
      · exact h2 this.2
    by_cases h3 : v.Kind = 3
    · by_cases hn : v.Next = 0
      · have hl : 0 < v.Items.list.length := List.length_pos_iff.2 (hx.2.resolve_left (fun h => h hn))
        simp [h3,hn,hl]
        exact fin_plain ⟨by rw [pdec_false no],rfl⟩
      · simp [h3,hn]
        exact fin_plain ⟨by rw [pdec_false no],rfl⟩
    · by_cases hn : v.Next = 0
      · have hl : 0 < v.Items.list.length := List.length_pos_iff.2 (hx.2.resolve_left (fun h => h hn))
        simp [h3,hs3 h3,hx.1,hn,hl]
        exact fin_plain ⟨by rw [pdec_false no],rfl⟩
      · simp [h3,hs3 h3,hx.1,hn]
        exact fin_plain ⟨by rw [pdec_false no],rfl⟩
  have hx4 : v.Kind ≠ 4 → v.Next = 0 ∧ v.Items.list = [] := fun h => ⟨Classical.byContradiction fun h2 => hx ⟨h,.inl h2⟩,Classical.byContradiction fun h2 => hx ⟨h,.inr h2⟩⟩
  replace h4 : v.Kind ≠ 4 := fun h => h4 ⟨h,hs3 (by omega)⟩
  · obtain ⟨hn0,hi0⟩ := hx4 h4
    have sc := gd_scalar h4 hs3 ⟨hn0,hi0⟩
    by_cases h0 : v.Kind = 0
    · simp [h0,hs3 (by omega),hn0,hi0]
      exact fin_plain ⟨by rw [pdec_of (b := decide (v.Num = 0)) (by rw [sc,decide_eq_true_iff]; omega)],rfl⟩
    by_cases h1 : v.Kind = 1
    · by_cases n0 : v.Num = 0
      · simp [h1,hs3 (by omega),hn0,hi0,n0]
        exact fin_plain ⟨by rw [pdec_true (sc.2 (by omega))],rfl⟩
      · simp [h1,hs3 (by omega),hn0,hi0,n0]
        exact fin_plain ⟨by rw [pdec_of (b := decide (v.Num = 1)) (by rw [sc,decide_eq_true_iff]; omega)],rfl⟩
    by_cases h2 : v.Kind = 2
    · simp [h2,hs3 (by omega),hn0,hi0]
      refine call_fn0 (inRange_fn _ _ _) .bool fun _ _ => ?_
      simp
      exact fin_plain ⟨by rw [pdec_of (b := inR v.Num (-1000000000) 1000000000) (by rw [sc]; exact ⟨fun h => ⟨by omega,by omega,by omega,by omega,by omega,fun _ => h,by omega,by omega⟩,fun h => h.2.2.2.2.2.1 h2⟩)],rfl⟩
    by_cases h3 : v.Kind = 3
    · by_cases n0 : v.Num = 0
      · simp [h3,hn0,hi0,n0]
        exact fin_plain ⟨by rw [pdec_of (b := decide (v.Str.length ≤ 400)) (by rw [sc,decide_eq_true_iff]; omega)]; congr 1; exact decide_eq_decide.2 (by omega),rfl⟩
      · simp [h3,hn0,hi0,n0]
        exact fin_plain ⟨by rw [pdec_false fun h => n0 ((sc.1 h).2.2.2.2.2.2.1 h3).1],rfl⟩
    by_cases h6 : v.Kind = 6 ∨ v.Kind = 7 ∨ v.Kind = 8
    · have key : pdec v.gd = inR v.Num 0 255 := pdec_of (by rw [sc]; exact ⟨fun h => ⟨by omega,by omega,by omega,by omega,by omega,by omega,by omega,fun _ => h⟩,fun h => h.2.2.2.2.2.2.2 h6⟩)
      rcases h6 with h6 | h6 | h6 <;>
      · simp [h6,hs3 (by omega),hn0,hi0]
        refine call_fn0 (inRange_fn _ _ _) .bool fun _ _ => ?_
        simp
        exact fin_plain ⟨by rw [key],rfl⟩
    · have h6' : ¬ v.Kind = 6 := by omega
      have h7' : ¬ v.Kind = 7 := by omega
      have h8' : ¬ v.Kind = 8 := by omega
      simp [h0,h1,h2,h3,h4,h6',h7',h8',hs3 (by omega),hn0,hi0]
      exact fin_plain ⟨by rw [pdec_false fun h => by have := sc.1 h; omega],rfl⟩
set_option maxRecDepth 100000
set_option maxHeartbeats 4000000 in
theorem impl_wf : ∀ v : TValue,v.sz ≤ 1048576 → Fnc Tryz.prog 154 [.agg v.enc] (.bool (pdec v.gd)) := by
  refine TValue.ind2 (p := fun v => v.sz ≤ 1048576 → Fnc Tryz.prog 154 [.agg v.enc] (.bool (pdec v.gd))) fun v ih hz => ?_
  by_cases h4s : v.Kind = 4 ∧ v.Str = []
  rotate_left
  · exact impl_wf0 v h4s
  obtain ⟨h4,hse⟩ := h4s
  refine fn_of c154 (by simp [F154]) fun c => ?_
  unfold F154
  have hil := items_len v
  have ar := gd_arr h4 hse
  by_cases n0 : v.Num = 0
  rotate_left
  · simp [h4,hse,n0]
    exact fin_plain ⟨by rw [pdec_false fun h => n0 (ar.1 h).1],rfl⟩
  simp [h4,hse,n0]
  refine call_fn0 (inRange_fn _ _ _) .bool fun c1 _ => ?_
  cases hR : inR v.Next 0 1000000001
  · simp
    exact fin_plain ⟨by rw [pdec_false fun h => by have := (ar.1 h).2.1; rw [hR] at this; cases this],rfl⟩
  simp [h4]
  refine loop_drop v.Items.list.length (fun i e H c' => ∃ tM,e 1 = .ptr 0 c 5 0 0 ∧ e 3 = .mref 1 tM ∧ e 83 = v.Items.av 8 encE ∧ e 84 = .int .i64 v.Items.list.length ∧ e 85 = .int .i64 i ∧ ((v.Items.list.map Prod.fst).take i).Nodup ∧ (∀ x,x ∈ v.Items.list.take i → isKey x.1 = true ∧ (x.1.Text = false → x.1.Num < v.Next) ∧ x.2.gd) ∧ H = [⟨false,c,5,[v.enc]⟩,⟨true,tM,0,seenK ((v.Items.list.map Prod.fst).take i)⟩]) ⟨c1,by simp [upd],by simp [upd],by simp [upd],by simp [upd],by simp [upd],by simp,by simp,by simp [seenK]⟩ ?_
  intro i e H c' hi ⟨tM,e1,e3,e83,e84,e85,hnd,hall,hH⟩ N hN
  subst hH
  by_cases h : i < v.Items.list.length
  · have hx : v.Items.list[i]? = some v.Items.list[i] := List.getElem?_eq_getElem h
    have htk : v.Items.list.take (i + 1) = v.Items.list.take i ++ [v.Items.list[i]] := List.take_succ_eq_append_getElem h
    have hxm : v.Items.list[i] ∈ v.Items.list := List.getElem_mem h
    generalize v.Items.list[i] = x at hx htk hxm
    have hsx := items_sz hxm
    have hkx : (v.Items.list.map Prod.fst)[i]? = some x.1 := by simp [hx]
    have hkt : (v.Items.list.map Prod.fst).take (i + 1) = (v.Items.list.map Prod.fst).take i ++ [x.1] := by obtain ⟨h1,h2⟩ := List.getElem?_eq_some_iff.1 hkx; rw [List.take_succ_eq_append_getElem h1,h2]
    simp [e1,e3,e83,e84,e85,h,getW_of hx]
    refine call_fn0 (impl_isKey (by omega)) .bool fun _ _ => ?_
    cases hk : isKey x.1
    · simp
      exact fin_plain ⟨by rw [pdec_false fun hh => by have := ((ar.1 hh).2.2.2 x hxm).1; rw [hk] at this; cases this],rfl⟩
    simp [e1,e3]
    by_cases hm : x.1 ∈ (v.Items.list.map Prod.fst).take i
    · obtain ⟨j,hj⟩ := mfK_yes _ 0 hm
      refine lookup_yes rfl rfl hj ?_
      simp
      exact fin_plain ⟨by rw [pdec_false fun hh => by exact nodup_at hkx hm (ar.1 hh).2.2.1],rfl⟩
    refine lookup_no rfl rfl (mfK_no _ 0 hm) ?_
    have rest : (x.1.Text = false → x.1.Num < v.Next) → ∀ (K : AV → List AObj → Nat → Prop) (H : List AObj) (c : Nat),(x.2.gd → ∀ c',K (.bool true) H c') → (¬ x.2.gd → ∀ c',K (.bool false) H c') → CallW Tryz.prog 154 [.agg x.2.enc] H c K := fun hlt K H c k1 k2 => by
      refine call_fn0 (ih x hxm (by omega)) .bool fun c' _ => ?_
      by_cases hg : x.2.gd
      · rw [pdec_true hg]; exact k1 hg c'
      · rw [pdec_false hg]; exact k2 hg c'
    have last : (x.1.Text = false → x.1.Num < v.Next) → x.2.gd → ∀ e c',e 1 = .ptr 0 c 5 0 0 → e 3 = .mref 1 tM → e 83 = v.Items.av 8 encE → e 84 = .int .i64 v.Items.list.length → e 85 = .int .i64 ((i : Int) + 1) → ∀ ob,N e [⟨false,c,5,[v.enc]⟩,⟨true,tM,0,seenK ((v.Items.list.map Prod.fst).take i) ++ [[.agg x.1.enc,.bool true]]⟩,ob] c' := fun hlt hg e c' e1 e3 e83 e84 e85 ob => by
      refine hN _ _ [⟨false,c,5,[v.enc]⟩,⟨true,tM,0,seenK ((v.Items.list.map Prod.fst).take i) ++ [[.agg x.1.enc,.bool true]]⟩] _ h (by simp) ⟨tM,e1,e3,e83,e84,e85,?_,?_,?_⟩
      · rw [hkt]; exact nodup_snoc hnd hm
      · intro y hy
        rw [htk,List.mem_append,List.mem_singleton] at hy
        rcases hy with hy | rfl
        · exact hall y hy
        · exact ⟨hk,hlt,hg⟩
      · rw [seenK_snoc,hkt]
    have hml : (seenK ((v.Items.list.map Prod.fst).take i)).length < mx := by rw [seenK_len]; simp; unfold mx; omega
    by_cases hlt : x.1.Text = false → x.1.Num < v.Next
    rotate_left
    · obtain ⟨ht,hlt2⟩ : x.1.Text = false ∧ ¬ x.1.Num < v.Next := ⟨Classical.byContradiction fun h => hlt fun h2 => absurd h2 h,fun h => hlt fun _ => h⟩
      have hle : v.Next ≤ x.1.Num := by omega
      simp [e1,e3,ht,hle]
      exact fin_plain ⟨by rw [pdec_false fun hh => hlt ((ar.1 hh).2.2.2 x hxm).2.1],rfl⟩
    cases ht : x.1.Text
    · have hle : ¬ v.Next ≤ x.1.Num := by have := hlt ht; omega
      simp [e1,e3,ht,hle]
      refine rest hlt _ _ _ (fun hg c' => ?_) fun hg c' => ?_
      · simp [e1,e3]
        refine mupd_no rfl rfl (mfK_no _ 0 hm) hml ?_
        simp [e1,e3,e83,e84,e85]
        exact last hlt hg _ _ (by simp [upd,e1]) (by simp [upd,e3]) (by simp [upd,e83]) (by simp [upd,e84]) (by simp [upd]; exact step64 (by unfold mx; omega) h) _
      · simp
        exact fin_plain ⟨by rw [pdec_false fun hh => hg ((ar.1 hh).2.2.2 x hxm).2.2],rfl⟩
    · simp [e1,e3,ht]
      refine rest hlt _ _ _ (fun hg c' => ?_) fun hg c' => ?_
      · simp [e1,e3]
        refine mupd_no rfl rfl (mfK_no _ 0 hm) hml ?_
        simp [e1,e3,e83,e84,e85]
        exact last hlt hg _ _ (by simp [upd,e1]) (by simp [upd,e3]) (by simp [upd,e83]) (by simp [upd,e84]) (by simp [upd]; exact step64 (by unfold mx; omega) h) _
      · simp
        exact fin_plain ⟨by rw [pdec_false fun hh => hg ((ar.1 hh).2.2.2 x hxm).2.2],rfl⟩
  · have hie : i = v.Items.list.length := by omega
    subst hie
    rw [List.take_of_length_le (by simp)] at hnd
    rw [List.take_length] at hall
    simp [e1,e3,e83,e84,e85]
    exact fin_plain ⟨by rw [pdec_true (ar.2 ⟨n0,hR,hnd,hall⟩)],rfl⟩
set_option maxRecDepth 100000
set_option maxHeartbeats 4000000 in
theorem spec_wf0 (v : TValue) (h4 : ¬ (v.Kind = 4 ∧ v.Str = [])) : Fnc Tryz.prog 138 [.agg v.enc] (.bool (pdec v.gd)) := by
  refine fn_of c138 (by simp [F138]) fun c => ?_
  unfold F138
  by_cases hs : v.Kind ≠ 3 ∧ v.Str ≠ []
  · simp [hs.1,hs.2]
    exact fin_plain ⟨by rw [pdec_false fun h => hs.2 (((gd_iff v).1 h).s3 hs.1)],rfl⟩
  have hs3 : v.Kind ≠ 3 → v.Str = [] := fun h => Classical.byContradiction fun h2 => hs ⟨h,h2⟩
  by_cases hx : v.Kind ≠ 4 ∧ (v.Next ≠ 0 ∨ v.Items.list ≠ [])
  · have no : ¬ v.gd := fun h => by
      have := ((gd_iff v).1 h).x4 hx.1
      rcases hx.2 with h2 | h2
      · exact h2 this.1
      · exact h2 this.2
    by_cases h3 : v.Kind = 3
    · by_cases hn : v.Next = 0
      · have hl : 0 < v.Items.list.length := List.length_pos_iff.2 (hx.2.resolve_left (fun h => h hn))
        simp [h3,hn,hl]
        exact fin_plain ⟨by rw [pdec_false no],rfl⟩
      · simp [h3,hn]
        exact fin_plain ⟨by rw [pdec_false no],rfl⟩
    · by_cases hn : v.Next = 0
      · have hl : 0 < v.Items.list.length := List.length_pos_iff.2 (hx.2.resolve_left (fun h => h hn))
        simp [h3,hs3 h3,hx.1,hn,hl]
        exact fin_plain ⟨by rw [pdec_false no],rfl⟩
      · simp [h3,hs3 h3,hx.1,hn]
        exact fin_plain ⟨by rw [pdec_false no],rfl⟩
  have hx4 : v.Kind ≠ 4 → v.Next = 0 ∧ v.Items.list = [] := fun h => ⟨Classical.byContradiction fun h2 => hx ⟨h,.inl h2⟩,Classical.byContradiction fun h2 => hx ⟨h,.inr h2⟩⟩
  replace h4 : v.Kind ≠ 4 := fun h => h4 ⟨h,hs3 (by omega)⟩
  · obtain ⟨hn0,hi0⟩ := hx4 h4
    have sc := gd_scalar h4 hs3 ⟨hn0,hi0⟩
    by_cases h0 : v.Kind = 0
    · simp [h0,hs3 (by omega),hn0,hi0]
      exact fin_plain ⟨by rw [pdec_of (b := decide (v.Num = 0)) (by rw [sc,decide_eq_true_iff]; omega)],rfl⟩
    by_cases h1 : v.Kind = 1
    · simp [h1,hs3 (by omega),hn0,hi0]
      refine call_fn0 (l1In_fn _ _ _) .bool fun _ _ => ?_
      simp
      exact fin_plain ⟨by rw [pdec_of (b := inR v.Num 0 1) (by rw [sc]; simp only [inR,Bool.and_eq_true,decide_eq_true_eq]; omega)],rfl⟩
    by_cases h2 : v.Kind = 2
    · simp [h2,hs3 (by omega),hn0,hi0]
      refine call_fn0 (l1In_fn _ _ _) .bool fun _ _ => ?_
      simp
      exact fin_plain ⟨by rw [pdec_of (b := inR v.Num (-1000000000) 1000000000) (by rw [sc]; exact ⟨fun h => ⟨by omega,by omega,by omega,by omega,by omega,fun _ => h,by omega,by omega⟩,fun h => h.2.2.2.2.2.1 h2⟩)],rfl⟩
    by_cases h3 : v.Kind = 3
    · by_cases n0 : v.Num = 0
      · simp [h3,hn0,hi0,n0]
        exact fin_plain ⟨by rw [pdec_of (b := decide (v.Str.length ≤ 400)) (by rw [sc,decide_eq_true_iff]; omega)]; congr 1; exact decide_eq_decide.2 (by omega),rfl⟩
      · simp [h3,hn0,hi0,n0]
        exact fin_plain ⟨by rw [pdec_false fun h => n0 ((sc.1 h).2.2.2.2.2.2.1 h3).1],rfl⟩
    by_cases h6 : v.Kind = 6 ∨ v.Kind = 7 ∨ v.Kind = 8
    · have key : pdec v.gd = inR v.Num 0 255 := pdec_of (by rw [sc]; exact ⟨fun h => ⟨by omega,by omega,by omega,by omega,by omega,by omega,by omega,fun _ => h⟩,fun h => h.2.2.2.2.2.2.2 h6⟩)
      rcases h6 with h6 | h6 | h6 <;>
      · simp [h6,hs3 (by omega),hn0,hi0]
        refine call_fn0 (l1In_fn _ _ _) .bool fun _ _ => ?_
        simp
        exact fin_plain ⟨by rw [key],rfl⟩
    · have h6' : ¬ v.Kind = 6 := by omega
      have h7' : ¬ v.Kind = 7 := by omega
      have h8' : ¬ v.Kind = 8 := by omega
      simp [h0,h1,h2,h3,h4,h6',h7',h8',hs3 (by omega),hn0,hi0]
      exact fin_plain ⟨by rw [pdec_false fun h => by have := sc.1 h; omega],rfl⟩
set_option maxRecDepth 100000
set_option maxHeartbeats 4000000 in
theorem spec_wf : ∀ v : TValue,v.sz ≤ 1048576 → Fnc Tryz.prog 138 [.agg v.enc] (.bool (pdec v.gd)) := by
  refine TValue.ind2 (p := fun v => v.sz ≤ 1048576 → Fnc Tryz.prog 138 [.agg v.enc] (.bool (pdec v.gd))) fun v ih hz => ?_
  by_cases h4s : v.Kind = 4 ∧ v.Str = []
  rotate_left
  · exact spec_wf0 v h4s
  obtain ⟨h4,hse⟩ := h4s
  refine fn_of c138 (by simp [F138]) fun c => ?_
  unfold F138
  have hil := items_len v
  have ar := gd_arr h4 hse
  by_cases n0 : v.Num = 0
  rotate_left
  · simp [h4,hse,n0]
    exact fin_plain ⟨by rw [pdec_false fun h => n0 (ar.1 h).1],rfl⟩
  simp [h4,hse,n0]
  refine call_fn0 (l1In_fn _ _ _) .bool fun _ _ => ?_
  cases hR : inR v.Next 0 1000000001
  · simp
    exact fin_plain ⟨by rw [pdec_false fun h => by have := (ar.1 h).2.1; rw [hR] at this; cases this],rfl⟩
  simp [h4]
  refine loop_drop v.Items.list.length (fun i e H c' => e 1 = .ptr 0 c 5 0 0 ∧ e 3 = .int .i64 i ∧ ((v.Items.list.map Prod.fst).take i).Nodup ∧ (∀ x,x ∈ v.Items.list.take i → isKey x.1 = true ∧ (x.1.Text = false → x.1.Num < v.Next) ∧ x.2.gd) ∧ H = [⟨false,c,5,[v.enc]⟩]) ⟨by simp [upd],by simp [upd],by simp,by simp,rfl⟩ ?_
  intro i e H c' hi ⟨e1,e3,hnd,hall,hH⟩ N hN
  subst hH
  by_cases h : i < v.Items.list.length
  · have hx : v.Items.list[i]? = some v.Items.list[i] := List.getElem?_eq_getElem h
    have htk : v.Items.list.take (i + 1) = v.Items.list.take i ++ [v.Items.list[i]] := List.take_succ_eq_append_getElem h
    have hxm : v.Items.list[i] ∈ v.Items.list := List.getElem_mem h
    generalize v.Items.list[i] = x at hx htk hxm
    have hsx := items_sz hxm
    have hkx : (v.Items.list.map Prod.fst)[i]? = some x.1 := by simp [hx]
    have hkt : (v.Items.list.map Prod.fst).take (i + 1) = (v.Items.list.map Prod.fst).take i ++ [x.1] := by obtain ⟨h1,h2⟩ := List.getElem?_eq_some_iff.1 hkx; rw [List.take_succ_eq_append_getElem h1,h2]
    simp [e1,e3,h,getW_of hx]
    refine call_fn0 (spec_isKey (by omega)) .bool fun _ _ => ?_
    cases hk : isKey x.1
    · simp
      exact fin_plain ⟨by rw [pdec_false fun hh => by have := ((ar.1 hh).2.2.2 x hxm).1; rw [hk] at this; cases this],rfl⟩
    simp [e1,e3]
    have hfi : firstAt x.1 (v.Items.list.map Prod.fst) 0 = if x.1 ∈ (v.Items.list.map Prod.fst).take i then firstAt x.1 (v.Items.list.map Prod.fst) 0 else (i : Int) := by
      split
      · rfl
      · rename_i hn; rw [firstAt_first _ 0 i hkx hn]; simp
    have rest : (x.1.Text = false → x.1.Num < v.Next) → ∀ (K : AV → List AObj → Nat → Prop) (H : List AObj) (c : Nat),(∀ n : Int,n ≠ i → ¬ v.gd → ∀ c',K (.int .i64 n) H c') → (x.1 ∉ (v.Items.list.map Prod.fst).take i → ∀ c',K (.int .i64 i) H c') → CallW Tryz.prog 177 [.agg v.enc,.agg x.1.enc] H c K := fun hlt K H c k1 k2 => by
      refine call_fn0 (l5Find_fn h4 (by omega) x.1) .int fun c' _ => ?_
      by_cases hm : x.1 ∈ (v.Items.list.map Prod.fst).take i
      · refine k1 _ ?_ (fun hh => ?_) c'
        · have hm2 := hm
          skip
          have := firstAt_less _ 0 i hm2
          omega
        · exact nodup_at hkx hm (ar.1 hh).2.2.1
      · rw [hfi,if_neg hm]
        exact k2 hm c'
    have rest2 : ∀ (K : AV → List AObj → Nat → Prop) (H : List AObj) (c : Nat),(x.2.gd → ∀ c',K (.bool true) H c') → (¬ x.2.gd → ∀ c',K (.bool false) H c') → CallW Tryz.prog 138 [.agg x.2.enc] H c K := fun K H c k1 k2 => by
      refine call_fn0 (ih x hxm (by omega)) .bool fun c' _ => ?_
      by_cases hg : x.2.gd
      · rw [pdec_true hg]; exact k1 hg c'
      · rw [pdec_false hg]; exact k2 hg c'
    by_cases hlt : x.1.Text = false → x.1.Num < v.Next
    rotate_left
    · obtain ⟨ht,hlt2⟩ : x.1.Text = false ∧ ¬ x.1.Num < v.Next := ⟨Classical.byContradiction fun h => hlt fun h2 => absurd h2 h,fun h => hlt fun _ => h⟩
      have hle : v.Next ≤ x.1.Num := by omega
      simp [e1,e3,ht,hle]
      exact fin_plain ⟨by rw [pdec_false fun hh => hlt ((ar.1 hh).2.2.2 x hxm).2.1],rfl⟩
    have fin1 : ∀ e c' ob,x.1 ∉ (v.Items.list.map Prod.fst).take i → x.2.gd → e 1 = .ptr 0 c 5 0 0 → e 3 = .int .i64 ((i : Int) + 1) → N e [⟨false,c,5,[v.enc]⟩,ob] c' := fun e c' ob hm hg e1 e3 => by
      refine hN _ _ [⟨false,c,5,[v.enc]⟩] _ h (by simp) ⟨e1,e3,?_,?_,rfl⟩
      · rw [hkt]; exact nodup_snoc hnd hm
      · intro y hy
        rw [htk,List.mem_append,List.mem_singleton] at hy
        rcases hy with hy | rfl
        · exact hall y hy
        · exact ⟨hk,hlt,hg⟩
    cases ht : x.1.Text
    · have hle : ¬ v.Next ≤ x.1.Num := by have := hlt ht; omega
      simp [e1,e3,ht,hle]
      refine rest hlt _ _ _ (fun n hn hg c' => ?_) fun hm c' => ?_
      · simp [e1,e3,hn]
        exact fin_plain ⟨by rw [pdec_false hg],rfl⟩
      simp [e1,e3,h,getW_of hx]
      refine rest2 _ _ _ (fun hg c' => ?_) fun hg c' => ?_
      · simp [e1,e3]
        exact fin1 _ _ _ hm hg (by simp [upd,e1]) (by simp [upd]; exact step64 (by unfold mx; omega) h)
      · simp
        exact fin_plain ⟨by rw [pdec_false fun hh => hg ((ar.1 hh).2.2.2 x hxm).2.2],rfl⟩
    · simp [e1,e3,ht]
      refine rest hlt _ _ _ (fun n hn hg c' => ?_) fun hm c' => ?_
      · simp [e1,e3,hn]
        exact fin_plain ⟨by rw [pdec_false hg],rfl⟩
      simp [e1,e3,h,getW_of hx]
      refine rest2 _ _ _ (fun hg c' => ?_) fun hg c' => ?_
      · simp [e1,e3]
        exact fin1 _ _ _ hm hg (by simp [upd,e1]) (by simp [upd]; exact step64 (by unfold mx; omega) h)
      · simp
        exact fin_plain ⟨by rw [pdec_false fun hh => hg ((ar.1 hh).2.2.2 x hxm).2.2],rfl⟩
  · have hie : i = v.Items.list.length := by omega
    subst hie
    rw [List.take_of_length_le (by simp)] at hnd
    rw [List.take_length] at hall
    simp [e1,e3]
    exact fin_plain ⟨by rw [pdec_true (ar.2 ⟨n0,hR,hnd,hall⟩)],rfl⟩
theorem impl_isVal {v : TValue} (hz : v.sz ≤ 1048576) : Fnc Tryz.prog 108 [.agg v.enc] (.bool (isVal v)) := by
  refine fn_of c108 (by simp [F108]) fun c => ?_
  unfold F108
  simp
  refine call_fn0 (impl_weight v (by omega)) .int fun _ _ => ?_
  by_cases h : v.wt ≤ 200
  · have h' : (v.wt : Int) ≤ 200 := by omega
    simp [h']
    refine call_fn0 (impl_wf v hz) .bool fun _ _ => ?_
    simp
    exact fin_plain ⟨by simp [isVal,h],rfl⟩
  · have h' : ¬ (v.wt : Int) ≤ 200 := by omega
    simp [h']
    exact fin_plain ⟨by simp [isVal,h],rfl⟩
theorem spec_isVal {v : TValue} (hz : v.sz ≤ 1048576) : Fnc Tryz.prog 95 [.agg v.enc] (.bool (isVal v)) := by
  refine fn_of c95 (by simp [F95]) fun c => ?_
  unfold F95
  simp
  refine call_tree0 (spec_weigh v (by omega) 200 (by omega)) fun r c2 _ ⟨n,hr,n1,n2,n3⟩ _ => ?_
  subst hr
  by_cases h : v.wt ≤ 200
  · have h' : (n : Int) ≤ 200 := by omega
    simp [h']
    refine call_fn0 (spec_wf v hz) .bool fun _ _ => ?_
    simp
    exact fin_plain ⟨by simp [isVal,h],rfl⟩
  · have h' : ¬ (n : Int) ≤ 200 := by omega
    simp [h']
    exact fin_plain ⟨by simp [isVal,h],rfl⟩
set_option maxRecDepth 100000
theorem inR_iff2 {x lo hi : Int} (h : inR x lo hi = true) : lo ≤ x ∧ x ≤ hi := by simpa [inR] using h
def errS : List UInt8 := [69,114,114,111,114]
def msgS : List UInt8 := [109,101,115,115,97,103,101]
def metName (m : TMethod) : List UInt8 := m.From ++ [58,58] ++ m.Name
structure FieldOk (f : TField) : Prop where
  gd : good f.Name = true
  vl : isVal f.Init = true
  kd : inR f.Init.Kind 0 3 = true
def MetOk (p : TProgram) (m : TMethod) : Prop := ∃ g,g ∈ p.Funcs.list ∧ g.Name = metName m ∧ isTop g.Name = false ∧ g.Uses.list.length = 0
structure ClassOk (p : TProgram) (c : TClass) : Prop where
  nd : (c.Fields.list.map TField.Name).Nodup
  fs : ∀ f,f ∈ c.Fields.list → FieldOk f
  ms : ∀ m,m ∈ c.Methods.list → MetOk p m
def Cls0 (p : TProgram) : Prop := ∃ c f,p.Classes.list[0]? = some c ∧ c.Name = errS ∧ c.Fields.list[0]? = some f ∧ f.Name = msgS
structure ProgOk (p : TProgram) : Prop where
  fl : p.Funcs.list.length ≤ 5000
  c0 : Cls0 p
  fnd : (p.Funcs.list.map TFunc.Name).Nodup
  fok : ∀ f,f ∈ p.Funcs.list → FuncOk f
  cnd : (p.Classes.list.map TClass.Name).Nodup
  cok : ∀ c,c ∈ p.Classes.list → ClassOk p c
def fR : List TFunc → Nat → List (List UInt8 × AV)
  | [],_ => []
  | f :: l,i => (f.Name,.int .i64 (i : Int)) :: fR l (i + 1)
theorem fR_fst : ∀ (l : List TFunc) (i : Nat),(fR l i).map Prod.fst = l.map TFunc.Name
  | [],_ => rfl
  | f :: l,i => by simp [fR,fR_fst l (i + 1)]
theorem fR_mem {k : List UInt8} {v : AV} : ∀ (l : List TFunc) (i : Nat),(k,v) ∈ fR l i → ∃ (j : Nat) (f : TFunc),l[j]? = some f ∧ f.Name = k ∧ v = .int .i64 ((i + j : Nat) : Int)
  | [],_,h => by simp [fR] at h
  | f :: l,i,h => by
    simp only [fR,List.mem_cons,Prod.mk.injEq] at h
    rcases h with ⟨rfl,rfl⟩ | h
    · exact ⟨0,f,rfl,rfl,rfl⟩
    · obtain ⟨j,g,h1,h2,h3⟩ := fR_mem l (i + 1) h
      exact ⟨j + 1,g,by simpa using h1,h2,by rw [h3,show i + 1 + j = i + (j + 1) by omega]⟩
theorem fR_snoc (f : TFunc) : ∀ (l : List TFunc) (i : Nat),fR (l ++ [f]) i = fR l i ++ [(f.Name,.int .i64 ((i + l.length : Nat) : Int))]
  | [],i => by simp [fR]
  | g :: l,i => by
    rw [List.cons_append,fR,fR_snoc f l (i + 1),fR,List.cons_append,List.length_cons,show i + 1 + l.length = i + (l.length + 1) by omega]
theorem fR_no {l : List TFunc} {k : List UInt8} (h : k ∉ l.map TFunc.Name) : mfind (.str k) (mkRows (fR l 0)) 0 = some none := mfS_no _ 0 (by rw [fR_fst]; exact h)
theorem fR_yes {l : List TFunc} {k : List UInt8} (h : k ∈ l.map TFunc.Name) : ∃ (j i : Nat) (f : TFunc),mfind (.str k) (mkRows (fR l 0)) 0 = some (some (j,.int .i64 (i : Int))) ∧ l[i]? = some f ∧ f.Name = k := by
  obtain ⟨j,v,h1,h2⟩ := mfS_yes (fR l 0) 0 (by rw [fR_fst]; exact h)
  obtain ⟨i,f,h3,h4,rfl⟩ := fR_mem l 0 h2
  exact ⟨j,i,f,by rw [h1,Nat.zero_add],h3,h4⟩
theorem fR_len : ∀ (l : List TFunc) (i : Nat),(fR l i).length = l.length
  | [],_ => rfl
  | f :: l,i => by simp [fR,fR_len l (i + 1)]
theorem names_inj {l : List TFunc} (hn : (l.map TFunc.Name).Nodup) {i j : Nat} {f g : TFunc} (hf : l[i]? = some f) (hg : l[j]? = some g) (h : f.Name = g.Name) : i = j := by
  have h1 : (l.map TFunc.Name)[i]? = some f.Name := by simp [hf]
  have h2 : (l.map TFunc.Name)[j]? = some f.Name := by simp [hg,h]
  have l1 := (List.getElem?_eq_some_iff.1 h1).1
  exact (List.getElem?_inj l1 hn).1 (h1.trans h2.symm)
theorem names_eq {l : List TFunc} (hn : (l.map TFunc.Name).Nodup) {f g : TFunc} (hf : f ∈ l) (hg : g ∈ l) (h : f.Name = g.Name) : f = g := by
  obtain ⟨i,hi⟩ := List.getElem?_of_mem hf
  obtain ⟨j,hj⟩ := List.getElem?_of_mem hg
  have := names_inj hn hi hj h
  subst this
  rw [hi] at hj; exact Option.some.inj hj
theorem fsz {p : TProgram} {f : TFunc} (hz : p.sz ≤ 1048576) (hf : f ∈ p.Funcs.list) : f.sz ≤ 1048576 := by
  have := szL_mem (sz := TFunc.sz) hf
  unfold TProgram.sz szFuncS at hz; omega
theorem csz {p : TProgram} {c : TClass} (hz : p.sz ≤ 1048576) (hc : c ∈ p.Classes.list) : c.sz ≤ 1048576 := by
  have := szL_mem (sz := TClass.sz) hc
  unfold TProgram.sz szClassS at hz; omega
theorem fdsz {c : TClass} {f : TField} (hz : c.sz ≤ 1048576) (hf : f ∈ c.Fields.list) : f.sz ≤ 1048576 := by
  have := szL_mem (sz := TField.sz) hf
  unfold TClass.sz szFieldS at hz; omega
theorem mtsz {c : TClass} {f : TMethod} (hz : c.sz ≤ 1048576) (hf : f ∈ c.Methods.list) : f.sz ≤ 1048576 := by
  have := szL_mem (sz := TMethod.sz) hf
  unfold TClass.sz szMethodS at hz; omega
set_option maxHeartbeats 4000000 in
theorem impl_isProgram {p : TProgram} (hp : p.ok) (hz : p.sz ≤ 1048576) : Fnc Tryz.prog 58 [.agg p.enc] (.bool (pdec (ProgOk p))) := by
  refine fn_of c58 (by simp [F58]) fun c => ?_
  unfold F58
  have hfl : p.Funcs.list.length ≤ 1048576 := by unfold TProgram.sz szFuncS at hz; omega
  have hcl : p.Classes.list.length ≤ 1048576 := by unfold TProgram.sz szClassS at hz; omega
  refine seq_cut (fun e H c' => e 1 = .ptr 0 c 2 0 0 ∧ H = [⟨false,c,2,[p.enc]⟩]) ?_ ?_
  rotate_left
  · intro K hK
    simp
    exact hK _ _ _ ⟨rfl,rfl⟩
  intro e H c1 ⟨e1,hH⟩
  subst hH
  refine seq_cut (fun e H c' => e 1 = .ptr 0 c 2 0 0 ∧ H = [⟨false,c,2,[p.enc]⟩] ∧ p.Funcs.list.length ≤ 5000 ∧ p.Classes.list ≠ []) ?_ ?_
  rotate_left
  · intro K hK
    by_cases h1 : (5000 : Int) < p.Funcs.list.length
    · simp [e1,h1]
      rw [pdec_false fun h => by have := h.fl; omega]
      exact fin_plain ⟨rfl,rfl⟩
    by_cases h2 : p.Classes.list = []
    · simp [e1,h1,h2]
      rw [pdec_false fun h => by obtain ⟨c,f,hc,_⟩ := h.c0; rw [h2] at hc; cases hc]
      exact fin_plain ⟨rfl,rfl⟩
    simp [e1,h1,h2]
    exact hK _ _ _ ⟨by simp [upd,e1],rfl,by omega,h2⟩
  clear e1 e
  intro e H c2 ⟨e1,hH,hf5,hcne⟩
  subst hH
  refine seq_cut (fun e H c' => ∃ t,e 1 = .ptr 0 c 2 0 0 ∧ e 3 = .mref 1 t ∧ H = [⟨false,c,2,[p.enc]⟩,⟨true,t,0,[]⟩]) ?_ ?_
  rotate_left
  · intro K hK
    simp
    exact hK _ _ _ ⟨_,by simp [upd,e1],rfl,rfl⟩
  clear e1 e
  intro e H c3 ⟨tM,e1,e3,hH⟩
  subst hH
  refine seq_cut (fun e H c' => e 1 = .ptr 0 c 2 0 0 ∧ e 3 = .mref 1 tM ∧ (p.Funcs.list.map TFunc.Name).Nodup ∧ (∀ f,f ∈ p.Funcs.list → FuncOk f) ∧ H = [⟨false,c,2,[p.enc]⟩,⟨true,tM,0,mkRows (fR p.Funcs.list 0)⟩]) ?_ ?_
  rotate_left
  · intro K hK
    simp [e1]
    refine loop_drop p.Funcs.list.length (fun i e H c' => e 1 = .ptr 0 c 2 0 0 ∧ e 3 = .mref 1 tM ∧ e 31 = p.Funcs.av 6 TFunc.enc ∧ e 32 = .int .i64 p.Funcs.list.length ∧ e 33 = .int .i64 i ∧ ((p.Funcs.list.take i).map TFunc.Name).Nodup ∧ (∀ f,f ∈ p.Funcs.list.take i → FuncOk f) ∧
      H = [⟨false,c,2,[p.enc]⟩,⟨true,tM,0,mkRows (fR (p.Funcs.list.take i) 0)⟩]) ⟨by simp [upd,e1],by simp [upd,e3],by simp [upd],by simp [upd],by simp [upd],by simp,by simp,by simp [fR,mkRows]⟩ ?_
    clear e1 e3 e
    intro i e H c' hi ⟨e1,e3,e31,e32,e33,hnd,hok,hH⟩ N hN
    subst hH
    by_cases h : i < p.Funcs.list.length
    · have hx : p.Funcs.list[i]? = some p.Funcs.list[i] := List.getElem?_eq_getElem h
      have htk : p.Funcs.list.take (i + 1) = p.Funcs.list.take i ++ [p.Funcs.list[i]] := List.take_succ_eq_append_getElem h
      have hxm : p.Funcs.list[i] ∈ p.Funcs.list := List.getElem_mem h
      generalize p.Funcs.list[i] = f at hx htk hxm
      have hkx : (p.Funcs.list.map TFunc.Name)[i]? = some f.Name := by simp [hx]
      simp [e1,e3,e31,e32,e33,h,getW_of hx]
      by_cases hm : f.Name ∈ (p.Funcs.list.take i).map TFunc.Name
      · obtain ⟨j,i2,g,hj,_⟩ := fR_yes hm
        refine lookup2_yes rfl rfl hj ?_
        simp
        rw [pdec_false fun hh => by rw [List.map_take] at hm; exact nodup_at hkx hm hh.fnd]
        exact fin_plain ⟨rfl,rfl⟩
      refine lookup2_no rfl rfl (fR_no hm) ?_
      simp
      refine call_fn0 (impl_isFunc (hp.1.2 f hxm) (by have := fsz hz hxm; omega)) .bool fun _ _ => ?_
      by_cases hfo : FuncOk f
      rotate_left
      · rw [isFunc_false hfo]
        simp
        rw [pdec_false fun hh => hfo (hh.fok f hxm)]
        exact fin_plain ⟨rfl,rfl⟩
      rw [isFunc_true hfo]
      simp [e3]
      refine mupd_no rfl rfl (fR_no hm) (by rw [mkRows_len,fR_len]; simp; unfold mx; omega) ?_
      simp [e1,e3,e31,e32,e33]
      refine hN _ _ [⟨false,c,2,[p.enc]⟩,⟨true,tM,0,mkRows (fR (p.Funcs.list.take i) 0) ++ [[.str f.Name,.int .i64 i]]⟩] _ h (by simp) ⟨by simp [upd,e1],by simp [upd,e3],by simp [upd,e31],by simp [upd,e32],by simp [upd]; exact step64 (by unfold mx; omega) h,?_,?_,?_⟩
      · rw [htk,List.map_append]; exact nodup_snoc hnd hm
      · intro y hy
        rw [htk,List.mem_append,List.mem_singleton] at hy
        rcases hy with hy | rfl
        · exact hok y hy
        · exact hfo
      · rw [mkRows_snoc,htk,fR_snoc,show (p.Funcs.list.take i).length = i by simp; omega,Nat.zero_add]
    · have hie : i = p.Funcs.list.length := by omega
      subst hie
      rw [List.take_length] at hnd hok
      simp [e1,e3,e31,e32,e33]
      exact hK _ _ _ ⟨by simp [upd,e1],by simp [upd,e3],hnd,hok,rfl⟩
  clear e1 e3 e
  intro e H c4 ⟨e1,e3,hfnd,hfok,hH⟩
  subst hH
  generalize hMF : mkRows (fR p.Funcs.list 0) = MF
  obtain ⟨c0,hc0⟩ : ∃ c0,p.Classes.list[0]? = some c0 := by
    cases hcc : p.Classes.list with
    | nil => exact absurd hcc hcne
    | cons a l => exact ⟨a,rfl⟩
  have hcp : 0 < p.Classes.list.length := List.length_pos_iff.2 hcne
  refine seq_cut (fun e H c' => ∃ ob,e 1 = .ptr 0 c 2 0 0 ∧ e 3 = .mref 1 tM ∧ Cls0 p ∧ H = [⟨false,c,2,[p.enc]⟩,⟨true,tM,0,MF⟩,ob]) ?_ ?_
  rotate_left
  · intro K hK
    have hc0m := List.mem_of_getElem? hc0
    have hfdl : c0.Fields.list.length ≤ 1048576 := by have := csz hz hc0m; unfold TClass.sz szFieldS at this; omega
    by_cases hn : c0.Name = errS
    rotate_left
    · have hn' : ¬ c0.Name = [69,114,114,111,114] := hn
      simp [e1,hcp,getW_of hc0,hn']
      rw [pdec_false fun h => by obtain ⟨c,f,hc,h2,_⟩ := h.c0; rw [hc0] at hc; cases hc; exact hn h2]
      exact fin_plain ⟨rfl,rfl⟩
    have hn' : c0.Name = [69,114,114,111,114] := hn
    cases hff : c0.Fields.list with
    | nil =>
      simp [e1,hcp,getW_of hc0,hn',hff]
      rw [pdec_false fun h => by obtain ⟨c,f,hc,h2,h3,_⟩ := h.c0; rw [hc0] at hc; cases hc; rw [hff] at h3; cases h3]
      exact fin_plain ⟨rfl,rfl⟩
    | cons f0 l =>
      have hf0 : c0.Fields.list[0]? = some f0 := by rw [hff]; rfl
      have hne : ¬ c0.Fields.list = [] := by rw [hff]; simp
      have hlp : 0 < c0.Fields.list.length := by rw [hff]; simp
      clear hff
      by_cases hm : f0.Name = msgS
      · have hm' : f0.Name = [109,101,115,115,97,103,101] := hm
        simp [e1,hcp,getW_of hc0,hn',hne,hlp,getW_of hf0,hm']
        exact hK _ _ _ ⟨_,by simp [upd,e1],by simp [upd,e3],⟨c0,f0,hc0,hn,hf0,hm⟩,rfl⟩
      · have hm' : ¬ f0.Name = [109,101,115,115,97,103,101] := hm
        simp [e1,hcp,getW_of hc0,hn',hne,hlp,getW_of hf0,hm']
        rw [pdec_false fun h => by obtain ⟨c,f,hc,h2,h3,h4⟩ := h.c0; rw [hc0] at hc; cases hc; rw [hf0] at h3; cases h3; exact hm h4]
        exact fin_plain ⟨rfl,rfl⟩
  clear e1 e3 e
  intro e H c5 ⟨ob,e1,e3,hcls0,hH⟩
  subst hH
  refine seq_cut (fun e H c' => ∃ t,e 1 = .ptr 0 c 2 0 0 ∧ e 3 = .mref 1 tM ∧ e 9 = .mref 3 t ∧ H = [⟨false,c,2,[p.enc]⟩,⟨true,tM,0,MF⟩,ob,⟨true,t,0,[]⟩]) ?_ ?_
  rotate_left
  · intro K hK
    simp
    exact hK _ _ _ ⟨_,by simp [upd,e1],by simp [upd,e3],rfl,rfl⟩
  clear e1 e3 e
  intro e H c6 ⟨tC,e1,e3,e9,hH⟩
  subst hH
  refine seq_cut (fun e H c' => (p.Classes.list.map TClass.Name).Nodup ∧ (∀ c,c ∈ p.Classes.list → ClassOk p c)) ?_ ?_
  · intro e H c' ⟨h1,h2⟩
    simp
    rw [pdec_true ⟨hf5,hcls0,hfnd,hfok,h1,h2⟩]
    exact fin_plain ⟨rfl,rfl⟩
  intro K hK
  simp [e1]
  refine loop_drop p.Classes.list.length (fun i e H c' => e 1 = .ptr 0 c 2 0 0 ∧ e 3 = .mref 1 tM ∧ e 9 = .mref 3 tC ∧ e 79 = p.Classes.av 4 TClass.enc ∧ e 80 = .int .i64 p.Classes.list.length ∧ e 81 = .int .i64 i ∧ ((p.Classes.list.map TClass.Name).take i).Nodup ∧ (∀ c,c ∈ p.Classes.list.take i → ClassOk p c) ∧
      H = [⟨false,c,2,[p.enc]⟩,⟨true,tM,0,MF⟩,ob,⟨true,tC,0,seenT ((p.Classes.list.map TClass.Name).take i)⟩]) ⟨by simp [upd,e1],by simp [upd,e3],by simp [upd,e9],by simp [upd],by simp [upd],by simp [upd],by simp,by simp,by simp [seenT_nil]⟩ ?_
  clear e1 e3 e9 e
  intro i e H c' hi ⟨e1,e3,e9,e79,e80,e81,hnd,hok,hH⟩ N hN
  subst hH
  by_cases h : i < p.Classes.list.length
  rotate_left
  · have hie : i = p.Classes.list.length := by omega
    subst hie
    rw [List.take_of_length_le (by simp)] at hnd
    rw [List.take_length] at hok
    simp [e1,e3,e9,e79,e80,e81]
    exact hK _ _ _ ⟨hnd,hok⟩
  have hx : p.Classes.list[i]? = some p.Classes.list[i] := List.getElem?_eq_getElem h
  have htk : p.Classes.list.take (i + 1) = p.Classes.list.take i ++ [p.Classes.list[i]] := List.take_succ_eq_append_getElem h
  have hxm : p.Classes.list[i] ∈ p.Classes.list := List.getElem_mem h
  generalize p.Classes.list[i] = cl at hx htk hxm
  have hkx : (p.Classes.list.map TClass.Name)[i]? = some cl.Name := by simp [hx]
  have hcz := csz hz hxm
  have hfdl : cl.Fields.list.length ≤ 1048576 := by have := hcz; unfold TClass.sz szFieldS at this; omega
  have hmtl : cl.Methods.list.length ≤ 1048576 := by have := hcz; unfold TClass.sz szMethodS at this; omega
  have hclok := hp.2.2 cl hxm
  simp [e1,e3,e9,e79,e80,e81,h,getW_of hx]
  by_cases hm : cl.Name ∈ (p.Classes.list.map TClass.Name).take i
  · obtain ⟨j,hj⟩ := seenT_yes hm
    refine lookup_yes rfl rfl hj ?_
    simp
    rw [pdec_false fun hh => nodup_at hkx hm hh.cnd]
    exact fin_plain ⟨rfl,rfl⟩
  refine lookup_no rfl rfl (seenT_no hm) ?_
  simp [e9]
  refine mupd_no rfl rfl (seenT_no hm) (by rw [seenT_len]; simp; unfold mx; omega) ?_
  have hkt : (p.Classes.list.map TClass.Name).take (i + 1) = (p.Classes.list.map TClass.Name).take i ++ [cl.Name] := by obtain ⟨h1,h2⟩ := List.getElem?_eq_some_iff.1 hkx; rw [List.take_succ_eq_append_getElem h1,h2]
  rw [seenT_snoc,← hkt]
  simp [e1,e3,e9,e79,e80,e81]
  generalize hSC : seenT ((p.Classes.list.map TClass.Name).take (i + 1)) = SC
  generalize hOC : (⟨false,c',4,[cl.enc]⟩ : AObj) = OC
  refine loop_drop cl.Fields.list.length (fun k e H c2 => e 1 = .ptr 0 c 2 0 0 ∧ e 3 = .mref 1 tM ∧ e 9 = .mref 3 tC ∧ e 79 = p.Classes.av 4 TClass.enc ∧ e 80 = .int .i64 p.Classes.list.length ∧ e 81 = .int .i64 i ∧ e 11 = .ptr 4 c' 4 0 0 ∧ e 94 = cl.Fields.av 8 TField.enc ∧ e 95 = .int .i64 cl.Fields.list.length ∧ e 96 = .int .i64 k ∧ ((cl.Fields.list.map TField.Name).take k).Nodup ∧ (∀ f,f ∈ cl.Fields.list.take k → FieldOk f) ∧
      (∃ tF,e 12 = .mref 5 tF ∧ H = [⟨false,c,2,[p.enc]⟩,⟨true,tM,0,MF⟩,ob,⟨true,tC,0,SC⟩,OC,⟨true,tF,0,seenT ((cl.Fields.list.map TField.Name).take k)⟩])) ⟨by simp [upd,e1],by simp [upd,e3],by simp [upd,e9],by simp [upd,e79],by simp [upd,e80],by simp [upd,e81],by simp [upd],by simp [upd],by simp [upd],by simp [upd],by simp,by simp,_,by simp [upd]; rfl,by simp [seenT_nil]⟩ ?_
  clear e1 e3 e9 e79 e80 e81 e
  intro k e H c2 hk ⟨e1,e3,e9,e79,e80,e81,e11,e94,e95,e96,hfn,hfo,tF,e12,hH⟩ M hM
  subst hH
  by_cases h2 : k < cl.Fields.list.length
  · have hy : cl.Fields.list[k]? = some cl.Fields.list[k] := List.getElem?_eq_getElem h2
    have hyt : cl.Fields.list.take (k + 1) = cl.Fields.list.take k ++ [cl.Fields.list[k]] := List.take_succ_eq_append_getElem h2
    have hym : cl.Fields.list[k] ∈ cl.Fields.list := List.getElem_mem h2
    generalize cl.Fields.list[k] = f at hy hyt hym
    have hky : (cl.Fields.list.map TField.Name)[k]? = some f.Name := by simp [hy]
    have hkyt : (cl.Fields.list.map TField.Name).take (k + 1) = (cl.Fields.list.map TField.Name).take k ++ [f.Name] := by obtain ⟨h1,h2⟩ := List.getElem?_eq_some_iff.1 hky; rw [List.take_succ_eq_append_getElem h1,h2]
    have hfz := fdsz hcz hym
    have hiz : f.Init.sz ≤ 1048576 := by unfold TField.sz at hfz; omega
    simp [e1,e3,e9,e11,e12,e94,e95,e96,h2,getW_of hy]
    by_cases hmf : f.Name ∈ (cl.Fields.list.map TField.Name).take k
    · obtain ⟨j,hj⟩ := seenT_yes hmf
      refine lookup_yes rfl rfl hj ?_
      simp
      rw [pdec_false fun hh => nodup_at hky hmf (hh.cok cl hxm).nd]
      exact fin_plain ⟨rfl,rfl⟩
    refine lookup_no rfl rfl (seenT_no hmf) ?_
    simp
    refine call_fn0 (goodName_fn (hclok.2.2.1.2 f hym).1) .bool fun _ _ => ?_
    cases hg : isName f.Name && !isReserved f.Name
    · simp
      rw [pdec_false fun hh => by have := ((hh.cok cl hxm).fs f hym).gd; unfold good at this; rw [hg] at this; cases this]
      exact fin_plain ⟨rfl,rfl⟩
    simp
    refine call_fn0 (impl_isVal hiz) .bool fun _ _ => ?_
    cases hv : isVal f.Init
    · simp
      rw [pdec_false fun hh => by have := ((hh.cok cl hxm).fs f hym).vl; rw [hv] at this; cases this]
      exact fin_plain ⟨rfl,rfl⟩
    simp
    refine call_fn0 (inRange_fn _ _ _) .bool fun _ _ => ?_
    cases hkd : inR f.Init.Kind 0 3
    · simp
      rw [pdec_false fun hh => by have := ((hh.cok cl hxm).fs f hym).kd; rw [hkd] at this; cases this]
      exact fin_plain ⟨rfl,rfl⟩
    simp [e12]
    refine mupd_no rfl rfl (seenT_no hmf) (by rw [seenT_len]; simp; unfold mx; omega) ?_
    rw [seenT_snoc,← hkyt]
    simp [e1,e3,e9,e11,e12,e94,e95,e96]
    refine hM _ _ [⟨false,c,2,[p.enc]⟩,⟨true,tM,0,MF⟩,ob,⟨true,tC,0,SC⟩,OC,⟨true,tF,0,seenT ((cl.Fields.list.map TField.Name).take (k + 1))⟩] _ h2 (by simp) ⟨by simp [upd,e1],by simp [upd,e3],by simp [upd,e9],by simp [upd,e79],by simp [upd,e80],by simp [upd,e81],by simp [upd,e11],by simp [upd,e94],by simp [upd,e95],by simp [upd]; exact step64 (by unfold mx; omega) h2,?_,?_,tF,by simp [upd,e12],rfl⟩
    · rw [hkyt]; exact nodup_snoc hfn hmf
    · intro y hy2
      rw [hyt,List.mem_append,List.mem_singleton] at hy2
      rcases hy2 with hy2 | rfl
      · exact hfo y hy2
      · exact ⟨hg,hv,hkd⟩
  have hke : k = cl.Fields.list.length := by omega
  subst hke
  rw [List.take_of_length_le (by simp)] at hfn
  rw [List.take_length] at hfo
  generalize hSF : seenT ((cl.Fields.list.map TField.Name).take cl.Fields.list.length) = SF
  subst hOC
  simp [e1,e3,e9,e11,e12,e94,e95,e96]
  generalize hOC : (⟨false,c',4,[cl.enc]⟩ : AObj) = OC
  refine loop_drop cl.Methods.list.length (fun k e H c2 => e 1 = .ptr 0 c 2 0 0 ∧ e 3 = .mref 1 tM ∧ e 9 = .mref 3 tC ∧ e 79 = p.Classes.av 4 TClass.enc ∧ e 80 = .int .i64 p.Classes.list.length ∧ e 81 = .int .i64 i ∧ e 128 = cl.Methods.av 5 TMethod.enc ∧ e 129 = .int .i64 cl.Methods.list.length ∧ e 130 = .int .i64 k ∧ (∀ m,m ∈ cl.Methods.list.take k → MetOk p m) ∧
      H = [⟨false,c,2,[p.enc]⟩,⟨true,tM,0,MF⟩,ob,⟨true,tC,0,SC⟩,OC,⟨true,tF,0,SF⟩]) ⟨by simp [upd,e1],by simp [upd,e3],by simp [upd,e9],by simp [upd,e79],by simp [upd,e80],by simp [upd,e81],by simp [upd],by simp [upd],by simp [upd],by simp,rfl⟩ ?_
  clear e1 e3 e9 e79 e80 e81 e11 e12 e94 e95 e96 e
  intro k e H c3 hk3 ⟨e1,e3,e9,e79,e80,e81,e128,e129,e130,hmo,hH⟩ L hL
  subst hH
  by_cases h3 : k < cl.Methods.list.length
  · have hy : cl.Methods.list[k]? = some cl.Methods.list[k] := List.getElem?_eq_getElem h3
    have hyt : cl.Methods.list.take (k + 1) = cl.Methods.list.take k ++ [cl.Methods.list[k]] := List.take_succ_eq_append_getElem h3
    have hym : cl.Methods.list[k] ∈ cl.Methods.list := List.getElem_mem h3
    generalize cl.Methods.list[k] = m at hy hyt hym
    have hmz := mtsz hcz hym
    have hmn : (metName m).length ≤ 2097160 := by unfold TMethod.sz at hmz; simp only [metName,List.length_append,List.length_cons,List.length_nil]; omega
    have hl1 : m.From.length + 2 ≤ mx := by unfold TMethod.sz at hmz; unfold mx; omega
    have hl2 : m.From.length + 2 + m.Name.length ≤ mx := by unfold TMethod.sz at hmz; unfold mx; omega
    have hl3 : m.From.length + (m.Name.length + 2) ≤ mx := by unfold TMethod.sz at hmz; unfold mx; omega
    have hmn2 : m.From ++ 58 :: 58 :: m.Name = metName m := by simp [metName]
    have bad : (∀ g,g ∈ p.Funcs.list → g.Name = metName m → isTop g.Name = true ∨ g.Uses.list ≠ []) → ¬ ProgOk p := fun hb hh => by
      obtain ⟨g,h1,h2,h3,h4⟩ := (hh.cok cl hxm).ms m hym
      rcases hb g h1 h2 with h | h
      · rw [h] at h3; cases h3
      · exact h (List.length_eq_zero_iff.1 h4)
    simp [e1,e3,e9,e128,e129,e130,h3,getW_of hy,hl1,hl2,hl3,hmn2]
    subst hMF
    by_cases hmm : metName m ∈ p.Funcs.list.map TFunc.Name
    rotate_left
    · refine lookup2_no rfl rfl (fR_no hmm) ?_
      simp
      rw [pdec_false (bad fun g h1 h2 => absurd (h2 ▸ List.mem_map_of_mem h1) hmm)]
      exact fin_plain ⟨rfl,rfl⟩
    obtain ⟨j,i2,g,hj,hg1,hg2⟩ := fR_yes hmm
    refine lookup2_yes rfl rfl hj ?_
    have hgi : i2 < p.Funcs.list.length := (List.getElem?_eq_some_iff.1 hg1).1
    have hgm := List.mem_of_getElem? hg1
    have uniq : ∀ g',g' ∈ p.Funcs.list → g'.Name = metName m → g' = g := fun g' h1 h2 => names_eq hfnd h1 hgm (h2.trans hg2.symm)
    simp [e1,hgi,getW_of hg1]
    refine call_fn0 (impl_isFile (hp.1.2 g hgm)) .bool fun _ _ => ?_
    cases htp : isTop g.Name
    rotate_left
    · simp
      rw [pdec_false (bad fun g' h1 h2 => .inl (by rw [uniq g' h1 h2]; exact htp))]
      exact fin_plain ⟨rfl,rfl⟩
    cases hus : g.Uses.list with
    | cons a l =>
      simp [e1,hgi,getW_of hg1,hus]
      rw [pdec_false (bad fun g' h1 h2 => .inr (by rw [uniq g' h1 h2,hus]; simp))]
      exact fin_plain ⟨rfl,rfl⟩
    | nil =>
      simp [e1,e130,hgi,getW_of hg1,hus]
      refine hL _ _ [⟨false,c,2,[p.enc]⟩,⟨true,tM,0,mkRows (fR p.Funcs.list 0)⟩,ob,⟨true,tC,0,SC⟩,OC,⟨true,tF,0,SF⟩] _ h3 (by simp) ⟨by simp [upd,e1],by simp [upd,e3],by simp [upd,e9],by simp [upd,e79],by simp [upd,e80],by simp [upd,e81],by simp [upd,e128],by simp [upd,e129],by simp [upd]; exact step64 (by unfold mx; omega) h3,?_,rfl⟩
      intro y hy2
      rw [hyt,List.mem_append,List.mem_singleton] at hy2
      rcases hy2 with hy2 | rfl
      · exact hmo y hy2
      · exact ⟨g,hgm,hg2,htp,by rw [hus]; rfl⟩
  have hke : k = cl.Methods.list.length := by omega
  subst hke
  rw [List.take_length] at hmo
  simp [e1,e3,e9,e81,e128,e129,e130]
  refine hN _ _ [⟨false,c,2,[p.enc]⟩,⟨true,tM,0,MF⟩,ob,⟨true,tC,0,SC⟩] _ h (by simp) ⟨by simp [upd,e1],by simp [upd,e3],by simp [upd,e9],by simp [upd,e79],by simp [upd,e80],by simp [upd]; exact step64 (by unfold mx; omega) h,?_,?_,by rw [hSC]⟩
  · rw [hkt]; exact nodup_snoc hnd hm
  · intro y hy2
    rw [htk,List.mem_append,List.mem_singleton] at hy2
    rcases hy2 with hy2 | rfl
    · exact hok y hy2
    · exact ⟨hfn,hfo,hmo⟩
set_option maxRecDepth 100000
theorem findFunc_fn {p : TProgram} (hz : p.Funcs.list.length ≤ 1048576) {s : List UInt8} : Fnc Tryz.prog 92 [.agg p.enc,.str s] (.int .i64 (firstAt s (p.Funcs.list.map TFunc.Name) 0)) := by
  refine fn_of c92 (by simp [F92]) fun c => ?_
  unfold F92
  simp
  refine loop_drop p.Funcs.list.length (fun i e H c' => e 1 = .str s ∧ e 2 = .ptr 0 c 2 0 0 ∧ e 5 = .int .i64 i ∧ firstAt s (p.Funcs.list.map TFunc.Name) 0 = firstAt s ((p.Funcs.list.map TFunc.Name).drop i) i ∧ H = [⟨false,c,2,[p.enc]⟩]) ⟨rfl,rfl,rfl,by simp,rfl⟩ ?_
  intro i e H c' hi ⟨e1,e2,e5,hd,hH⟩ N hN
  subst hH
  by_cases h : i < p.Funcs.list.length
  · obtain ⟨x,hx⟩ : ∃ x,p.Funcs.list[i]? = some x := ⟨_,List.getElem?_eq_getElem h⟩
    have hkx : (p.Funcs.list.map TFunc.Name)[i]? = some x.Name := by simp [hx]
    rw [firstAt_go hkx] at hd
    by_cases hxs : x.Name = s
    · simp [e1,e2,e5,h,getW_of hx,hxs]
      rw [hd,if_pos hxs]
      exact fin_plain ⟨rfl,rfl⟩
    · simp [e1,e2,e5,h,getW_of hx,hxs]
      rw [if_neg hxs] at hd
      exact hN _ _ _ _ h (List.Sublist.refl _) ⟨by simp [upd,e1],by simp [upd,e2],by simp [upd]; exact step64 (by unfold mx; omega) h,hd,rfl⟩
  · have hie : i = p.Funcs.list.length := by omega
    subst hie
    simp [e1,e2,e5]
    rw [hd,List.drop_of_length_le (by simp)]
    exact fin_plain ⟨rfl,rfl⟩
theorem findClass_fn {cs : SL TClass} (hz : cs.list.length ≤ 1048576) {s : List UInt8} : Fnc Tryz.prog 94 [cs.av 4 TClass.enc,.str s] (.int .i64 (firstAt s (cs.list.map TClass.Name) 0)) := by
  refine fn_of c94 (by simp [F94]) fun c => ?_
  unfold F94
  simp
  refine loop_drop cs.list.length (fun i e H c' => e 0 = cs.av 4 TClass.enc ∧ e 1 = .str s ∧ e 5 = .int .i64 i ∧ firstAt s (cs.list.map TClass.Name) 0 = firstAt s ((cs.list.map TClass.Name).drop i) i ∧ H = []) ⟨rfl,rfl,rfl,by simp,rfl⟩ ?_
  intro i e H c' hi ⟨e0,e1,e5,hd,hH⟩ N hN
  subst hH
  by_cases h : i < cs.list.length
  · obtain ⟨x,hx⟩ : ∃ x,cs.list[i]? = some x := ⟨_,List.getElem?_eq_getElem h⟩
    have hkx : (cs.list.map TClass.Name)[i]? = some x.Name := by simp [hx]
    rw [firstAt_go hkx] at hd
    by_cases hxs : x.Name = s
    · simp [e0,e1,e5,h,getW_of hx,hxs]
      rw [hd,if_pos hxs]
      exact fin_plain ⟨rfl,rfl⟩
    · simp [e0,e1,e5,h,getW_of hx,hxs]
      rw [if_neg hxs] at hd
      exact hN _ _ _ _ h (List.Sublist.refl _) ⟨by simp [upd,e0],by simp [upd,e1],by simp [upd]; exact step64 (by unfold mx; omega) h,hd,rfl⟩
  · have hie : i = cs.list.length := by omega
    subst hie
    simp [e0,e1,e5]
    rw [hd,List.drop_of_length_le (by simp)]
    exact fin_plain ⟨rfl,rfl⟩
theorem firstAt_ne {α : Type} [DecidableEq α] {l : List α} {i : Nat} {s : α} (hx : l[i]? = some s) : (firstAt s l 0 = (i : Int) ∧ s ∉ l.take i) ∨ (firstAt s l 0 ≠ (i : Int) ∧ ¬ l.Nodup) := by
  by_cases hm : s ∈ l.take i
  · refine .inr ⟨?_,nodup_at hx hm⟩
    have := firstAt_less l 0 i hm
    omega
  · exact .inl ⟨by rw [firstAt_first l 0 i hx hm]; simp,hm⟩
theorem firstAt_none {α : Type} [DecidableEq α] {s : α} : ∀ (l : List α) (i : Nat),s ∉ l → firstAt s l i = -1
  | [],_,_ => rfl
  | x :: l,i,h => by
    simp only [List.mem_cons,not_or] at h
    rw [firstAt,if_neg (fun e => h.1 e.symm),firstAt_none l (i + 1) h.2]
theorem firstAt_some {α : Type} [DecidableEq α] {s : α} : ∀ (l : List α) (i : Nat),s ∈ l → ∃ k : Nat,firstAt s l i = ((i + k : Nat) : Int) ∧ l[k]? = some s
  | [],_,h => by simp at h
  | x :: l,i,h => by
    by_cases hx : x = s
    · exact ⟨0,by simp [firstAt,hx],by simp [hx]⟩
    · simp only [List.mem_cons] at h
      obtain ⟨k,h1,h2⟩ := firstAt_some l (i + 1) (h.resolve_left fun e => hx e.symm)
      exact ⟨k + 1,by rw [firstAt,if_neg hx,h1,show i + 1 + k = i + (k + 1) by omega],by simpa using h2⟩
set_option maxHeartbeats 4000000 in
theorem spec_isProgram {p : TProgram} (hp : p.ok) (hz : p.sz ≤ 1048576) : Fnc Tryz.prog 51 [.agg p.enc] (.bool (pdec (ProgOk p))) := by
  refine fn_of c51 (by simp [F51]) fun c => ?_
  unfold F51
  have hfl : p.Funcs.list.length ≤ 1048576 := by unfold TProgram.sz szFuncS at hz; omega
  have hcl : p.Classes.list.length ≤ 1048576 := by unfold TProgram.sz szClassS at hz; omega
  refine seq_cut (fun e H c' => e 1 = .ptr 0 c 2 0 0 ∧ H = [⟨false,c,2,[p.enc]⟩]) ?_ ?_
  rotate_left
  · intro K hK
    simp
    exact hK _ _ _ ⟨rfl,rfl⟩
  intro e H c1 ⟨e1,hH⟩
  subst hH
  refine seq_cut (fun e H c' => e 1 = .ptr 0 c 2 0 0 ∧ H = [⟨false,c,2,[p.enc]⟩] ∧ p.Funcs.list.length ≤ 5000 ∧ Cls0 p) ?_ ?_
  rotate_left
  · intro K hK
    by_cases h1 : (5000 : Int) < p.Funcs.list.length
    · simp [e1,h1]
      rw [pdec_false fun h => by have := h.fl; omega]
      exact fin_plain ⟨rfl,rfl⟩
    by_cases h2 : p.Classes.list = []
    · simp [e1,h1,h2]
      rw [pdec_false fun h => by obtain ⟨c,f,hc,_⟩ := h.c0; rw [h2] at hc; cases hc]
      exact fin_plain ⟨rfl,rfl⟩
    have hcp : 0 < p.Classes.list.length := List.length_pos_iff.2 h2
    obtain ⟨c0,hc0⟩ : ∃ c0,p.Classes.list[0]? = some c0 := by
      cases hcc : p.Classes.list with
      | nil => exact absurd hcc h2
      | cons a l => exact ⟨a,rfl⟩
    have hc0m := List.mem_of_getElem? hc0
    by_cases hn : c0.Name = errS
    rotate_left
    · have hn' : ¬ c0.Name = [69,114,114,111,114] := hn
      simp [e1,h1,h2,hcp,getW_of hc0,hn']
      rw [pdec_false fun h => by obtain ⟨c,f,hc,h2,_⟩ := h.c0; rw [hc0] at hc; cases hc; exact hn h2]
      exact fin_plain ⟨rfl,rfl⟩
    have hn' : c0.Name = [69,114,114,111,114] := hn
    cases hff : c0.Fields.list with
    | nil =>
      simp [e1,h1,h2,hcp,getW_of hc0,hn',hff]
      rw [pdec_false fun h => by obtain ⟨c,f,hc,h2,h3,_⟩ := h.c0; rw [hc0] at hc; cases hc; rw [hff] at h3; cases h3]
      exact fin_plain ⟨rfl,rfl⟩
    | cons f0 l =>
      have hf0 : c0.Fields.list[0]? = some f0 := by rw [hff]; rfl
      have hne : ¬ c0.Fields.list = [] := by rw [hff]; simp
      have hlp : 0 < c0.Fields.list.length := by rw [hff]; simp
      clear hff
      by_cases hm : f0.Name = msgS
      · have hm' : f0.Name = [109,101,115,115,97,103,101] := hm
        simp [e1,h1,h2,hcp,getW_of hc0,hn',hne,hlp,getW_of hf0,hm']
        exact hK _ _ _ ⟨by simp [upd,e1],rfl,by omega,c0,f0,hc0,hn,hf0,hm⟩
      · have hm' : ¬ f0.Name = [109,101,115,115,97,103,101] := hm
        simp [e1,h1,h2,hcp,getW_of hc0,hn',hne,hlp,getW_of hf0,hm']
        rw [pdec_false fun h => by obtain ⟨c,f,hc,h2,h3,h4⟩ := h.c0; rw [hc0] at hc; cases hc; rw [hf0] at h3; cases h3; exact hm h4]
        exact fin_plain ⟨rfl,rfl⟩
  clear e1 e
  intro e H c2 ⟨e1,hH,hf5,hcls0⟩
  subst hH
  refine seq_cut (fun e H c' => e 1 = .ptr 0 c 2 0 0 ∧ (p.Funcs.list.map TFunc.Name).Nodup ∧ (∀ f,f ∈ p.Funcs.list → FuncOk f) ∧ H = [⟨false,c,2,[p.enc]⟩]) ?_ ?_
  rotate_left
  · intro K hK
    simp [e1]
    refine loop_drop p.Funcs.list.length (fun i e H c' => e 1 = .ptr 0 c 2 0 0 ∧ e 3 = .int .i64 i ∧ ((p.Funcs.list.map TFunc.Name).take i).Nodup ∧ (∀ f,f ∈ p.Funcs.list.take i → FuncOk f) ∧ H = [⟨false,c,2,[p.enc]⟩]) ⟨by simp [upd,e1],by simp [upd],by simp,by simp,rfl⟩ ?_
    clear e1 e
    intro i e H c' hi ⟨e1,e3,hnd,hok,hH⟩ N hN
    subst hH
    by_cases h : i < p.Funcs.list.length
    · have hx : p.Funcs.list[i]? = some p.Funcs.list[i] := List.getElem?_eq_getElem h
      have htk : p.Funcs.list.take (i + 1) = p.Funcs.list.take i ++ [p.Funcs.list[i]] := List.take_succ_eq_append_getElem h
      have hxm : p.Funcs.list[i] ∈ p.Funcs.list := List.getElem_mem h
      generalize p.Funcs.list[i] = f at hx htk hxm
      have hkx : (p.Funcs.list.map TFunc.Name)[i]? = some f.Name := by simp [hx]
      have hkt : (p.Funcs.list.map TFunc.Name).take (i + 1) = (p.Funcs.list.map TFunc.Name).take i ++ [f.Name] := by obtain ⟨h1,h2⟩ := List.getElem?_eq_some_iff.1 hkx; rw [List.take_succ_eq_append_getElem h1,h2]
      simp [e1,e3,h,getW_of hx]
      refine callF_fn0 (findFunc_fn (by omega)) .int fun _ _ => ?_
      rcases firstAt_ne hkx with ⟨he,hm⟩ | ⟨he,hm⟩
      rotate_left
      · simp [e1,e3,he]
        rw [pdec_false fun hh => hm hh.fnd]
        exact fin_plain ⟨rfl,rfl⟩
      rw [he]
      simp [e1,e3,h,getW_of hx]
      refine callF_fn0 (spec_isFunc (hp.1.2 f hxm) (by have := fsz hz hxm; omega)) .bool fun _ _ => ?_
      by_cases hfo : FuncOk f
      rotate_left
      · rw [isFunc_false hfo]
        simp
        rw [pdec_false fun hh => hfo (hh.fok f hxm)]
        exact fin_plain ⟨rfl,rfl⟩
      rw [isFunc_true hfo]
      simp [e1,e3]
      refine hN _ _ _ _ h (List.Sublist.refl _) ⟨by simp [upd,e1],by simp [upd]; exact step64 (by unfold mx; omega) h,?_,?_,rfl⟩
      · rw [hkt]; exact nodup_snoc hnd hm
      · intro y hy
        rw [htk,List.mem_append,List.mem_singleton] at hy
        rcases hy with hy | rfl
        · exact hok y hy
        · exact hfo
    · have hie : i = p.Funcs.list.length := by omega
      subst hie
      rw [List.take_of_length_le (by simp)] at hnd
      rw [List.take_length] at hok
      simp [e1,e3]
      exact hK _ _ _ ⟨by simp [upd,e1],hnd,hok,rfl⟩
  clear e1 e
  intro e H c4 ⟨e1,hfnd,hfok,hH⟩
  subst hH
  refine seq_cut (fun e H c' => (p.Classes.list.map TClass.Name).Nodup ∧ (∀ c,c ∈ p.Classes.list → ClassOk p c)) ?_ ?_
  · intro e H c' ⟨h1,h2⟩
    simp
    rw [pdec_true ⟨hf5,hcls0,hfnd,hfok,h1,h2⟩]
    exact fin_plain ⟨rfl,rfl⟩
  intro K hK
  simp [e1]
  refine loop_drop p.Classes.list.length (fun i e H c' => e 1 = .ptr 0 c 2 0 0 ∧ e 4 = .int .i64 i ∧ ((p.Classes.list.map TClass.Name).take i).Nodup ∧ (∀ c,c ∈ p.Classes.list.take i → ClassOk p c) ∧ H = [⟨false,c,2,[p.enc]⟩]) ⟨by simp [upd,e1],by simp [upd],by simp,by simp,rfl⟩ ?_
  clear e1 e
  intro i e H c' hi ⟨e1,e4,hnd,hok,hH⟩ N hN
  subst hH
  by_cases h : i < p.Classes.list.length
  rotate_left
  · have hie : i = p.Classes.list.length := by omega
    subst hie
    rw [List.take_of_length_le (by simp)] at hnd
    rw [List.take_length] at hok
    simp [e1,e4]
    exact hK _ _ _ ⟨hnd,hok⟩
  have hx : p.Classes.list[i]? = some p.Classes.list[i] := List.getElem?_eq_getElem h
  have htk : p.Classes.list.take (i + 1) = p.Classes.list.take i ++ [p.Classes.list[i]] := List.take_succ_eq_append_getElem h
  have hxm : p.Classes.list[i] ∈ p.Classes.list := List.getElem_mem h
  generalize p.Classes.list[i] = cl at hx htk hxm
  have hkx : (p.Classes.list.map TClass.Name)[i]? = some cl.Name := by simp [hx]
  have hkt : (p.Classes.list.map TClass.Name).take (i + 1) = (p.Classes.list.map TClass.Name).take i ++ [cl.Name] := by obtain ⟨h1,h2⟩ := List.getElem?_eq_some_iff.1 hkx; rw [List.take_succ_eq_append_getElem h1,h2]
  have hcz := csz hz hxm
  have hfdl : cl.Fields.list.length ≤ 1048576 := by have := hcz; unfold TClass.sz szFieldS at this; omega
  have hmtl : cl.Methods.list.length ≤ 1048576 := by have := hcz; unfold TClass.sz szMethodS at this; omega
  have hclok := hp.2.2 cl hxm
  simp [e1,e4,h,getW_of hx]
  refine call_fn0 (findClass_fn (by omega)) .int fun c9 _ => ?_
  rcases firstAt_ne hkx with ⟨he,hm⟩ | ⟨he,hm⟩
  rotate_left
  · simp [e1,e4,he]
    rw [pdec_false fun hh => hm hh.cnd]
    exact fin_plain ⟨rfl,rfl⟩
  rw [he]
  simp [e1,e4]
  refine loop_drop cl.Fields.list.length (fun k e H c2 => e 1 = .ptr 0 c 2 0 0 ∧ e 4 = .int .i64 i ∧ e 6 = .int .i64 k ∧ ((cl.Fields.list.map TField.Name).take k).Nodup ∧ (∀ f,f ∈ cl.Fields.list.take k → FieldOk f) ∧ e 5 = .ptr 1 c' 4 0 0 ∧
      H = [⟨false,c,2,[p.enc]⟩,⟨false,c',4,[cl.enc]⟩]) ⟨by simp [upd,e1],by simp [upd,e4],by simp [upd],by simp,by simp,by simp [upd],rfl⟩ ?_
  clear e1 e4 e
  intro k e H c2 hk ⟨e1,e4,e6,hfn,hfo,e5,hH⟩ M hM
  subst hH
  by_cases h2 : k < cl.Fields.list.length
  · have hy : cl.Fields.list[k]? = some cl.Fields.list[k] := List.getElem?_eq_getElem h2
    have hyt : cl.Fields.list.take (k + 1) = cl.Fields.list.take k ++ [cl.Fields.list[k]] := List.take_succ_eq_append_getElem h2
    have hym : cl.Fields.list[k] ∈ cl.Fields.list := List.getElem_mem h2
    generalize cl.Fields.list[k] = f at hy hyt hym
    have hky : (cl.Fields.list.map TField.Name)[k]? = some f.Name := by simp [hy]
    have hkyt : (cl.Fields.list.map TField.Name).take (k + 1) = (cl.Fields.list.map TField.Name).take k ++ [f.Name] := by obtain ⟨h1,h2⟩ := List.getElem?_eq_some_iff.1 hky; rw [List.take_succ_eq_append_getElem h1,h2]
    have hfz := fdsz hcz hym
    have hiz : f.Init.sz ≤ 1048576 := by unfold TField.sz at hfz; omega
    simp [e1,e4,e5,e6,h2,getW_of hy]
    refine call_fn0 (spec_isVal hiz) .bool fun _ _ => ?_
    cases hv : isVal f.Init
    · simp
      rw [pdec_false fun hh => by have := ((hh.cok cl hxm).fs f hym).vl; rw [hv] at this; cases this]
      exact fin_plain ⟨rfl,rfl⟩
    by_cases hkd : f.Init.Kind ≤ 3
    rotate_left
    · have hkd' : (3 : Int) < f.Init.Kind := by omega
      simp [e5,e6,h2,getW_of hy,hkd']
      rw [pdec_false fun hh => by have := inR_iff2 ((hh.cok cl hxm).fs f hym).kd; omega]
      exact fin_plain ⟨rfl,rfl⟩
    have hkd' : ¬ (3 : Int) < f.Init.Kind := by omega
    have hkd3 : inR f.Init.Kind 0 3 = true := by
      unfold isVal at hv
      simp only [Bool.and_eq_true,decide_eq_true_eq] at hv
      have := ((gd_iff _).1 (pdec_iff.1 hv.2)).k0
      simp [inR]; omega
    simp [e5,e6,h2,getW_of hy,hkd']
    refine call_fn0 (l15Name_fn (hclok.2.2.1.2 f hym).1) .bool fun _ _ => ?_
    cases hg : isName f.Name && !isReserved f.Name
    · simp
      rw [pdec_false fun hh => by have := ((hh.cok cl hxm).fs f hym).gd; unfold good at this; rw [hg] at this; cases this]
      exact fin_plain ⟨rfl,rfl⟩
    simp [e5,e6]
    refine loop_drop k (fun j e H c3 => e 1 = .ptr 0 c 2 0 0 ∧ e 4 = .int .i64 i ∧ e 6 = .int .i64 k ∧ e 7 = .int .i64 j ∧ e 5 = .ptr 1 c' 4 0 0 ∧ f.Name ∉ (cl.Fields.list.map TField.Name).take j ∧
      H = [⟨false,c,2,[p.enc]⟩,⟨false,c',4,[cl.enc]⟩]) ⟨by simp [upd,e1],by simp [upd,e4],by simp [upd,e6],by simp [upd],by simp [upd,e5],by simp,rfl⟩ ?_
    clear e1 e4 e5 e6 e
    intro j e H c3 hj ⟨e1,e4,e6,e7,e5,hnj,hH⟩ L hL
    subst hH
    by_cases h3 : j < k
    · have hj2 : j < cl.Fields.list.length := by omega
      obtain ⟨g,hgj⟩ : ∃ g,cl.Fields.list[j]? = some g := ⟨_,List.getElem?_eq_getElem hj2⟩
      have hgk : (cl.Fields.list.map TField.Name)[j]? = some g.Name := by simp [hgj]
      have hgt : (cl.Fields.list.map TField.Name).take (j + 1) = (cl.Fields.list.map TField.Name).take j ++ [g.Name] := by obtain ⟨h1,h2⟩ := List.getElem?_eq_some_iff.1 hgk; rw [List.take_succ_eq_append_getElem h1,h2]
      by_cases hfg : g.Name = f.Name
      · simp [e5,e6,e7,h2,h3,hj2,getW_of hy,getW_of hgj,hfg]
        rw [pdec_false fun hh => ?_]
        · exact fin_plain ⟨rfl,rfl⟩
        · have hnd2 := (hh.cok cl hxm).nd
          have := (List.getElem?_inj (by simp; exact hj2) hnd2).1 (hgk.trans ((congrArg some hfg).trans hky.symm))
          omega
      · simp [e5,e6,e7,h2,h3,hj2,getW_of hy,getW_of hgj,hfg]
        refine hL _ _ _ _ h3 (List.Sublist.refl _) ⟨by simp [upd,e1],by simp [upd,e4],by simp [upd,e6],by simp [upd]; exact step64 (by unfold mx; omega) h3,by simp [upd,e5],?_,rfl⟩
        rw [hgt,List.mem_append,List.mem_singleton]
        rintro (h | h)
        · exact hnj h
        · exact hfg h.symm
    · have hje : j = k := by omega
      subst hje
      simp [e1,e4,e5,e6,e7]
      refine hM _ _ _ _ h2 (List.Sublist.refl _) ⟨by simp [upd,e1],by simp [upd,e4],by simp [upd]; exact step64 (by unfold mx; omega) h2,?_,?_,by simp [upd,e5],rfl⟩
      · rw [hkyt]; exact nodup_snoc hfn hnj
      · intro y hy2
        rw [hyt,List.mem_append,List.mem_singleton] at hy2
        rcases hy2 with hy2 | rfl
        · exact hfo y hy2
        · exact ⟨hg,hv,hkd3⟩
  have hke : k = cl.Fields.list.length := by omega
  subst hke
  rw [List.take_of_length_le (by simp)] at hfn
  rw [List.take_length] at hfo
  simp [e1,e4,e5,e6]
  refine loop_drop cl.Methods.list.length (fun k e H c2 => e 1 = .ptr 0 c 2 0 0 ∧ e 4 = .int .i64 i ∧ e 8 = .int .i64 k ∧ (∀ m,m ∈ cl.Methods.list.take k → MetOk p m) ∧ e 5 = .ptr 1 c' 4 0 0 ∧
      H = [⟨false,c,2,[p.enc]⟩,⟨false,c',4,[cl.enc]⟩]) ⟨by simp [upd,e1],by simp [upd,e4],by simp [upd],by simp,by simp [upd,e5],rfl⟩ ?_
  clear e1 e4 e5 e6 e
  intro k e H c3 hk3 ⟨e1,e4,e8,hmo,e5,hH⟩ L hL
  subst hH
  by_cases h3 : k < cl.Methods.list.length
  · have hy : cl.Methods.list[k]? = some cl.Methods.list[k] := List.getElem?_eq_getElem h3
    have hyt : cl.Methods.list.take (k + 1) = cl.Methods.list.take k ++ [cl.Methods.list[k]] := List.take_succ_eq_append_getElem h3
    have hym : cl.Methods.list[k] ∈ cl.Methods.list := List.getElem_mem h3
    generalize cl.Methods.list[k] = m at hy hyt hym
    have hmz := mtsz hcz hym
    have hl1 : m.From.length + 2 ≤ mx := by unfold TMethod.sz at hmz; unfold mx; omega
    have hl2 : m.From.length + 2 + m.Name.length ≤ mx := by unfold TMethod.sz at hmz; unfold mx; omega
    have hl3 : m.From.length + (m.Name.length + 2) ≤ mx := by unfold TMethod.sz at hmz; unfold mx; omega
    have hmn2 : m.From ++ 58 :: 58 :: m.Name = metName m := by simp [metName]
    have bad : (∀ g,g ∈ p.Funcs.list → g.Name = metName m → isTop g.Name = true ∨ g.Uses.list ≠ []) → ¬ ProgOk p := fun hb hh => by
      obtain ⟨g,h1,h2,h3,h4⟩ := (hh.cok cl hxm).ms m hym
      rcases hb g h1 h2 with h | h
      · rw [h] at h3; cases h3
      · exact h (List.length_eq_zero_iff.1 h4)
    simp [e1,e5,e8,h3,getW_of hy,hl1,hl2,hl3,hmn2]
    refine callF_fn0 (findFunc_fn (by omega)) .int fun _ _ => ?_
    by_cases hmm : metName m ∈ p.Funcs.list.map TFunc.Name
    rotate_left
    · rw [firstAt_none _ 0 hmm]
      simp
      rw [pdec_false (bad fun g h1 h2 => absurd (h2 ▸ List.mem_map_of_mem h1) hmm)]
      exact fin_plain ⟨rfl,rfl⟩
    obtain ⟨i2,hj,hg0⟩ := firstAt_some _ 0 hmm
    rw [hj,Nat.zero_add]
    obtain ⟨g,hg1,hg2⟩ : ∃ g,p.Funcs.list[i2]? = some g ∧ g.Name = metName m := by simpa using hg0
    have hgi : i2 < p.Funcs.list.length := (List.getElem?_eq_some_iff.1 hg1).1
    have hgm := List.mem_of_getElem? hg1
    have uniq : ∀ g',g' ∈ p.Funcs.list → g'.Name = metName m → g' = g := fun g' h1 h2 => names_eq hfnd h1 hgm (h2.trans hg2.symm)
    have hneg : ¬ (i2 : Int) < 0 := by omega
    simp [e1,e5,hgi,getW_of hg1,hneg]
    refine call_fn0 (spec_top (hp.1.2 g hgm)) .bool fun _ _ => ?_
    cases htp : isTop g.Name
    rotate_left
    · simp
      rw [pdec_false (bad fun g' h1 h2 => .inl (by rw [uniq g' h1 h2]; exact htp))]
      exact fin_plain ⟨rfl,rfl⟩
    cases hus : g.Uses.list with
    | cons a l =>
      simp [e1,hgi,getW_of hg1,hus]
      rw [pdec_false (bad fun g' h1 h2 => .inr (by rw [uniq g' h1 h2,hus]; simp))]
      exact fin_plain ⟨rfl,rfl⟩
    | nil =>
      simp [e1,e8,hgi,getW_of hg1,hus]
      refine hL _ _ _ _ h3 (List.Sublist.refl _) ⟨by simp [upd,e1],by simp [upd,e4],by simp [upd]; exact step64 (by unfold mx; omega) h3,?_,by simp [upd,e5],rfl⟩
      intro y hy2
      rw [hyt,List.mem_append,List.mem_singleton] at hy2
      rcases hy2 with hy2 | rfl
      · exact hmo y hy2
      · exact ⟨g,hgm,hg2,htp,by rw [hus]; rfl⟩
  have hke : k = cl.Methods.list.length := by omega
  subst hke
  rw [List.take_length] at hmo
  simp [e1,e4,e5,e8]
  refine hN _ _ [⟨false,c,2,[p.enc]⟩] _ h (by simp) ⟨by simp [upd,e1],by simp [upd]; exact step64 (by unfold mx; omega) h,?_,?_,rfl⟩
  · rw [hkt]; exact nodup_snoc hnd hm
  · intro y hy2
    rw [htk,List.mem_append,List.mem_singleton] at hy2
    rcases hy2 with hy2 | rfl
    · exact hok y hy2
    · exact ⟨hfn,hfo,hmo⟩
set_option maxRecDepth 100000
def uv (n : Nat) : List UInt8 := if h : n < 128 then [UInt8.ofNat n] else UInt8.ofNat (n % 128 + 128) :: uv (n / 128)
termination_by n
decreasing_by omega
def eT (s : List UInt8) : List UInt8 := uv s.length ++ s
def eB (b : Bool) : List UInt8 := uv (if b then 1 else 0)
def eN (n : Int) : List UInt8 := uv n.toNat
def eL {α : Type} (f : α → List UInt8) (l : List α) : List UInt8 := uv l.length ++ l.flatMap f
def eP (x : TParam) : List UInt8 := eT x.Name ++ eB x.Ref
def eIns (i : TIns) : List UInt8 := eN i.Op ++ (eN i.A ++ (eN i.B ++ (eT i.S ++ eT i.T)))
def eFunc (f : TFunc) : List UInt8 := eT f.Name ++ (eL eP f.Params.list ++ (eL eP f.Uses.list ++ (eL eT f.Slots.list ++ (eB f.Gen ++ eL eIns f.Code.list))))
def ser (v : TValue) : List UInt8 :=
  if v.Kind = 0 then [78,59] else if v.Kind = 1 then [98,58] ++ Lib.itoa v.Num ++ [59] else if v.Kind = 2 then [105,58] ++ Lib.itoa v.Num ++ [59] else [115,58] ++ Lib.itoa v.Str.length ++ [58] ++ v.Str ++ [59]
def eField (f : TField) : List UInt8 := eT f.Name ++ (eT f.Owner ++ (eB f.Private ++ eT (ser f.Init)))
def eMet (m : TMethod) : List UInt8 := eT m.Name ++ (eT m.Owner ++ (eT m.From ++ (eB m.Private ++ eB m.Static)))
def eClass (c : TClass) : List UInt8 := eT c.Name ++ (eT c.Parent ++ (eL eField c.Fields.list ++ eL eMet c.Methods.list))
def eProg (p : TProgram) : List UInt8 := eL eFunc p.Funcs.list ++ eL eClass p.Classes.list
set_option maxRecDepth 100000
def andN (a b : Int) : Int := IntKind.i64.wrap ((BitVec.ofInt 64 a &&& BitVec.ofInt 64 b).toNat : Int)
def orN (a b : Int) : Int := IntKind.i64.wrap ((BitVec.ofInt 64 a ||| BitVec.ofInt 64 b).toNat : Int)
theorem intW_andN (a b : Int) (K : AV → Prop) : intW .and .i64 a b K = K (.int .i64 (andN a b)) := rfl
theorem intW_orN (a b : Int) (K : AV → Prop) : intW .or .i64 a b K = K (.int .i64 (orN a b)) := rfl
theorem ofInt64 (a : Nat) : BitVec.ofInt 64 (a : Int) = BitVec.ofNat 64 a := by simp
theorem andN_nat {a b : Nat} (ha : a < 9223372036854775808) (hb : b < 9223372036854775808) : andN (a : Int) (b : Int) = ((a &&& b : Nat) : Int) := by
  unfold andN
  rw [ofInt64,ofInt64,BitVec.toNat_and,BitVec.toNat_ofNat,BitVec.toNat_ofNat,Nat.mod_eq_of_lt (by omega),Nat.mod_eq_of_lt (by omega)]
  have := Nat.and_le_left (n := a) (m := b)
  exact wrap64 (by omega) (by omega)
theorem orN_nat {a b : Nat} (ha : a < 4611686018427387904) (hb : b < 4611686018427387904) : orN (a : Int) (b : Int) = ((a ||| b : Nat) : Int) := by
  unfold orN
  rw [ofInt64,ofInt64,BitVec.toNat_or,BitVec.toNat_ofNat,BitVec.toNat_ofNat,Nat.mod_eq_of_lt (by omega),Nat.mod_eq_of_lt (by omega)]
  have := Nat.or_lt_two_pow (n := 62) (x := a) (y := b) (by omega) (by omega)
  exact wrap64 (by omega) (by omega)
theorem and127 {n : Nat} (h : n < 9223372036854775808) : andN (n : Int) 127 = ((n % 128 : Nat) : Int) := by
  rw [show (127 : Int) = ((127 : Nat) : Int) from rfl,andN_nat h (by omega),show (127 : Nat) = 2 ^ 7 - 1 from rfl,Nat.and_two_pow_sub_one_eq_mod]
def BufQ (m : List UInt8) (r : AV) (O : List AObj) : Prop := ∃ t,r = .ref 0 t 1 m.length ∧ O = [⟨false,t,1,m.map byteRow⟩]
theorem av_rows (T : List Nat) (t : Nat) (m : List UInt8) : AvRows T ⟨false,t,1,m.map byteRow⟩ := by
  intro r j x a hx ha
  obtain ⟨b,_,rfl⟩ : ∃ b,b ∈ m ∧ byteRow b = x := by simpa using List.mem_of_getElem? hx
  have := List.mem_of_getElem? ha
  simp [byteRow] at this
  subst this
  exact .int
theorem fin_buf {Q : AV → List AObj → Nat → Prop} {t : Nat} {m : List UInt8} {H : List AObj} {c n : Nat} (hn : n = m.length) (hH : H.head? = some ⟨false,t,1,m.map byteRow⟩) (h : ∀ r O,BufQ m r O → Q r O c) : finW Q (.ref 0 t 1 n) H c := by
  cases H with
  | nil => simp at hH
  | cons a l =>
    simp at hH
    subst hH hn
    exact ⟨[],[⟨false,t,1,m.map byteRow⟩],[⟨false,t,1,m.map byteRow⟩],.ref 0 t 1 m.length,by simp,.refl _ _,by simp,by simp [tags],.refl _,h _ _ ⟨t,rfl,rfl⟩⟩
set_option maxRecDepth 100000
end A
end Go.Proofs.YtgalkppgeoknaaaGreatDoor

namespace Go.Proofs.YtgalkppgeoknaaaGreatDoor
namespace A
set_option linter.unusedVariables false
set_option linter.unusedSimpArgs false
set_option maxRecDepth 100000
set_option maxRecDepth 100000
theorem byteRow_cell (b : UInt8) : ∀ a,a ∈ byteRow b → a.cell = true := by simp [byteRow]
theorem av_bytes (s : SL UInt8) : Av [] (s.av 1 byteRow) := by
  cases s with
  | nil => exact .nsl
  | mk t l =>
    refine .slc (by simp) fun r j x a hx ha => ?_
    obtain ⟨b,_,rfl⟩ : ∃ b,b ∈ l ∧ byteRow b = x := by simpa using List.mem_of_getElem? hx
    have := List.mem_of_getElem? ha
    simp [byteRow] at this
    subst this
    exact .int
theorem tr_buf {P : Program} {f : Nat} {args : List AV} {m : List UInt8} (h : ∀ c,Con P f args [] c fun r O _ => BufQ m r O) : Tr P f args fun _ r => ∃ s : SL UInt8,r = s.av 1 byteRow ∧ s.list = m := by
  refine tr_of (Q := fun r O _ => BufQ m r O) h fun c r O c' hc hq ht => ?_
  obtain ⟨t,rfl,rfl⟩ := hq
  refine ⟨(SL.mk t m).av 1 byteRow,view_ref (by simp) rfl (fun x _ => byteRow_cell x),⟨SL.mk t m,rfl,rfl⟩,from_slc (ht t (by simp [tags])) fun row hr a ha => ?_⟩
  simp only [List.mem_map] at hr
  obtain ⟨b,_,rfl⟩ := hr
  simp [byteRow] at ha
  subst ha
  simp
set_option maxRecDepth 100000
theorem plain_arr {v : TValue} (h4 : v.Kind = 4) : v.plain ↔ ∀ e,e ∈ v.Items.list → e.2.plain := by
  rw [plain_iff]
  exact ⟨fun h => h.1 h4,fun h => ⟨fun _ => h,fun k => absurd h4 k⟩⟩
theorem plain_one {v : TValue} (h4 : v.Kind ≠ 4) : v.plain ↔ inR v.Kind 0 3 = true := by
  rw [plain_iff]
  simp only [inR,Bool.and_eq_true,decide_eq_true_eq]
  exact ⟨fun h => h.2 h4,fun h => ⟨fun k => absurd k h4,fun _ => h⟩⟩
theorem impl_isPlain : ∀ v : TValue,v.sz ≤ 1099511627776 → Fnc Tryz.prog 156 [.agg v.enc] (.bool (pdec v.plain)) := by
  refine TValue.ind2 (p := fun v => v.sz ≤ 1099511627776 → Fnc Tryz.prog 156 [.agg v.enc] (.bool (pdec v.plain))) fun v ih hz => ?_
  refine fn_of c156 (by simp [F156]) fun c => ?_
  unfold F156
  by_cases h4 : v.Kind = 4
  rotate_left
  · simp [h4]
    refine call_fn0 (inRange_fn _ _ _) .bool fun _ _ => ?_
    simp
    exact fin_plain ⟨by rw [pdec_of (plain_one h4).symm],rfl⟩
  have hil := items_len v
  simp [h4]
  refine loop_drop v.Items.list.length (fun i e H c' => e 9 = v.Items.av 8 encE ∧ e 10 = .int .i64 v.Items.list.length ∧ e 11 = .int .i64 i ∧ (∀ x,x ∈ v.Items.list.take i → x.2.plain) ∧ H = [⟨false,c,5,[v.enc]⟩]) ⟨by simp [upd],by simp [upd],by simp [upd],by simp,rfl⟩ ?_
  intro i e H c' hi ⟨e9,e10,e11,hall,hH⟩ N hN
  subst hH
  by_cases h : i < v.Items.list.length
  · have hx : v.Items.list[i]? = some v.Items.list[i] := List.getElem?_eq_getElem h
    have htk : v.Items.list.take (i + 1) = v.Items.list.take i ++ [v.Items.list[i]] := List.take_succ_eq_append_getElem h
    have hxm : v.Items.list[i] ∈ v.Items.list := List.getElem_mem h
    generalize v.Items.list[i] = x at hx htk hxm
    simp [e9,e10,e11,h,getW_of hx]
    refine call_fn0 (ih x hxm (by have := items_sz hxm; omega)) .bool fun _ _ => ?_
    by_cases hg : x.2.plain
    · rw [pdec_true hg]
      simp [e9,e10,e11]
      refine hN _ _ [_] _ h (by simp) ⟨by simp [upd,e9],by simp [upd,e10],by simp [upd]; exact step64 (by unfold mx; omega) h,?_,rfl⟩
      intro y hy
      rw [htk,List.mem_append,List.mem_singleton] at hy
      rcases hy with hy | rfl
      · exact hall y hy
      · exact hg
    · rw [pdec_false hg]
      simp
      exact fin_plain ⟨by rw [pdec_false fun hh => hg ((plain_arr h4).1 hh x hxm)],rfl⟩
  · have hie : i = v.Items.list.length := by omega
    subst hie
    rw [List.take_length] at hall
    simp [e9,e10,e11]
    exact fin_plain ⟨by rw [pdec_true ((plain_arr h4).2 hall)],rfl⟩
theorem impl_ser {v : TValue} (h0 : 0 ≤ v.Kind) (h3 : v.Kind ≤ 3) (n0 : -1000000000 ≤ v.Num) (n1 : v.Num ≤ 1000000000) (hs : v.Str.length ≤ 1048576) (c : Nat) : Con Tryz.prog 157 [.nsl,.agg v.enc] [] c fun r O _ => BufQ (ser v) r O := by
  refine con_of c157 (by simp [F157]) ?_
  unfold F157
  have i1 := itoa_le (n := v.Num) (by omega) (by omega)
  have i2 := itoa_le (n := (v.Str.length : Int)) (by omega) (by omega)
  have fin : ∀ {t c' : Nat} (m : List UInt8) {n : Nat} {ob : AObj} {rows : List (List AV)},n = m.length → rows = m.map byteRow → m = ser v → finW (fun r O _ => BufQ (ser v) r O) (.ref 1 t 1 n) [ob,⟨false,t,1,rows⟩] c' := fun {t c'} m {n ob rows} hn hr hm => by
    subst hn hr hm
    exact ⟨[],[⟨false,t,1,(ser v).map byteRow⟩],[⟨false,t,1,(ser v).map byteRow⟩],.ref 0 t 1 (ser v).length,by simp,.refl _ _,by simp,by simp [tags],.name,t,rfl,rfl⟩
  have a1 : (Lib.itoa v.Num).length + 1 + 1 ≤ mx := by unfold mx; omega
  have a2 : (Lib.itoa v.Num).length + 1 + 1 + 1 ≤ mx := by unfold mx; omega
  have a3 : (Lib.itoa v.Num).length + 1 + 1 + 1 ≤ 140737488355328 := by omega
  have a4 : 2 + (Lib.itoa v.Num).length ≤ mx := by unfold mx; omega
  have a5 : 2 + (Lib.itoa v.Num).length + 1 ≤ mx := by unfold mx; omega
  have a6 : 2 ≤ mx := by unfold mx; omega
  by_cases k0 : v.Kind = 0
  · simp [k0,a6]
    exact fin [78,59] rfl rfl (by simp [ser,k0])
  by_cases k1 : v.Kind = 1
  · simp [k1]
    refine call_fn0 (implFmtI_fn (by omega) (by omega)) .str fun _ _ => ?_
    simp [a1,a2,a3,a4,a5]
    refine fin (98 :: 58 :: (Lib.itoa v.Num ++ [59])) ?_ ?_ ?_
    · simp
    · simp
    · simp [ser,k1]
  by_cases k2 : v.Kind = 2
  · simp [k2]
    refine call_fn0 (implFmtI_fn (by omega) (by omega)) .str fun _ _ => ?_
    simp [a1,a2,a3,a4,a5]
    refine fin (105 :: 58 :: (Lib.itoa v.Num ++ [59])) ?_ ?_ ?_
    · simp
    · simp
    · simp [ser,k2]
  have k3 : v.Kind = 3 := by omega
  simp [k3]
  refine callF_fn0 (implFmtI_fn (by omega) (by omega)) .str fun _ _ => ?_
  generalize hI : Lib.itoa (v.Str.length : Int) = I at i2
  have b1 : I.length + 1 + 1 ≤ mx := by unfold mx; omega
  have b2 : I.length + 1 + 1 + 1 ≤ mx := by unfold mx; omega
  have b3 : I.length + 1 + 1 + 1 + v.Str.length ≤ mx := by unfold mx; omega
  have b4 : I.length + (v.Str.length + 1) + 1 + 1 ≤ mx := by unfold mx; omega
  have b5 : I.length + (v.Str.length + 1) + 1 + 1 + 1 ≤ mx := by unfold mx; omega
  have b6 : 2 + I.length ≤ mx := by unfold mx; omega
  have b7 : I.length + (v.Str.length + 1 + 1) + 1 + 1 ≤ mx := by unfold mx; omega
  have b8 : I.length + (v.Str.length + 1 + 1) + 1 + 1 ≤ 140737488355328 := by omega
  simp [b1,b2,b3,b4,b5,b6,b7,b8]
  refine fin (115 :: 58 :: (I ++ 58 :: (v.Str ++ [59]))) ?_ ?_ ?_
  · simp
  · simp
  · simp [ser,k3,hI]
theorem toStrW_sl {s : SL UInt8} {H : List AObj} {K : AV → Prop} (hl : s.list.length ≤ mx) (k : K (.str s.list)) : toStrW (s.av 1 byteRow) H K := by
  have : toStrW (s.av 1 byteRow) H K = srcW 1 (s.av 1 byteRow) H fun rows => ∃ l : List UInt8,rows = l.map byteRow ∧ l.length ≤ mx ∧ K (.str l) := by cases s <;> rfl
  rw [this,srcW_sl]
  exact ⟨s.list,rfl,hl,k⟩
set_option maxRecDepth 100000
end A
end Go.Proofs.YtgalkppgeoknaaaGreatDoor

namespace Go.Proofs.YtgalkppgeoknaaaGreatDoor
namespace A
set_option linter.unusedVariables false
set_option linter.unusedSimpArgs false
set_option maxRecDepth 100000
theorem call_at {P : Program} {f c i : Nat} {l l' : List AV} {a : AObj} {H : List AObj} {Q K : AV → List AObj → Nat → Prop} (hi : H[i]? = some a) (hf : Con P f l' [a] c Q) (hv : Views [] l l')
    (k : ∀ r O c',c ≤ c' → Q r O c' → ∃ a',O = [a'] ∧ a'.tag = a.tag ∧ Av [] r ∧ AvRows [] a' ∧ K r (H.set i a') c') : CallW P f l H c K := by
  obtain ⟨hil,hy⟩ := List.getElem?_eq_some_iff.1 hi
  have e : ∀ X : AObj,H.take i ++ [X] ++ H.drop (i + 1) = H.set i X := fun X => by rw [List.set_eq_take_append_cons_drop,if_pos hil]; simp
  have e0 : H = H.take i ++ [a] ++ H.drop (i + 1) := by rw [e,← hy,List.set_getElem_self]
  rw [e0]
  refine call_mid hf hv fun r B' c' hc hq => ?_
  obtain ⟨a',h1,h2,h3,h4,h5⟩ := k r B' c' hc hq
  subst h1
  exact ⟨by simp [tags,h2],h3,fun o ho => by rw [List.mem_singleton.1 ho]; exact h4,by rw [e]; exact h5⟩
def rdo (s : List UInt8) (t a : Nat) (b : Bool) : AObj := ⟨false,t,3,[[.str s,.int .i64 a,.bool b]]⟩
theorem av_rdo (s : List UInt8) (t a : Nat) (b : Bool) : AvRows [] (rdo s t a b) := by
  intro r j x y hx hy
  have h1 := List.mem_of_getElem? hx
  simp [rdo] at h1
  subst h1
  have h2 := List.mem_of_getElem? hy
  simp at h2
  rcases h2 with rfl | rfl | rfl
  · exact .str
  · exact .int
  · exact .bool
def RdQ (c : Nat) (s : List UInt8) (t : Nat) (q : AV → Nat → Bool → Prop) (r : AV) (O : List AObj) : Prop := ∃ a b,O = [rdo s t a b] ∧ From c r ∧ q r a b
theorem call_rd {P : Program} {K : AV → List AObj → Nat → Prop} {f i c t a : Nat} {b : Bool} {s : List UInt8} {args : List AV} {H : List AObj} {q : AV → Nat → Bool → Prop} (hi : H[i]? = some (rdo s t a b)) (hf : Con P f (.ptr 0 t 3 0 0 :: args) [rdo s t a b] c fun r O _ => RdQ c s t q r O)
    (k : ∀ r a' b' c',c ≤ c' → From c r → q r a' b' → K r (H.set i (rdo s t a' b')) c') : CallW P f (.ptr i t 3 0 0 :: args) H c K :=
  call_at hi hf (.cons .namep (Views.refl [] args)) fun r O c' hc ⟨a',b',hO,hr,hq⟩ => ⟨_,hO,rfl,hr [] (fun _ h => by simp at h),av_rdo _ _ _ _,k r a' b' c' hc hr hq⟩
theorem fin_rd {s : List UInt8} {t a c c0 : Nat} {b : Bool} {r : AV} {q : AV → Nat → Bool → Prop} {H : List AObj} (hH : H.head? = some (rdo s t a b)) (hr : From c0 r) (hv : View [] r r) (h : q r a b) : finW (fun r O _ => RdQ c0 s t q r O) r H c := by
  cases H with
  | nil => simp at hH
  | cons x l =>
    simp at hH
    subst hH
    exact ⟨[],[rdo s t a b],[rdo s t a b],r,by simp,.refl _ _,by simp,by simp [tags],hv,a,b,rfl,hr,h⟩
theorem drop_pre {s : List UInt8} {a n : Nat} (h : n ≤ (s.drop a).length) (ha : a ≤ s.length) : a + n ≤ s.length := by simp at h; omega
theorem hasPre_len {l p : List UInt8} (h : hasPre l p = true) : p.length ≤ l.length := by
  have h1 : l.take p.length = p := of_decide_eq_true h
  have h2 := congrArg List.length h1
  rw [List.length_take] at h2
  omega
theorem impl_eat {s p : List UInt8} {t a : Nat} {b : Bool} (hs : s.length ≤ 1048576) (ha : a ≤ s.length) (hp : p.length ≤ 1048576) (c : Nat) :
    Con Tryz.prog 199 [.ptr 0 t 3 0 0,.str p] [rdo s t a b] c fun r O _ => RdQ c s t (fun r a' b' => r = .tup [] ∧ (if hasPre (s.drop a) p then a' = a + p.length ∧ b' = b else a' = a ∧ b' = true)) r O := by
  refine con_of c199 (by simp [F199]) ?_
  unfold F199
  have ha' : (a : Int) ≤ s.length := by omega
  simp [rdo,ha]
  refine callF_fn0 (prefix_fn (by simp; unfold mx; omega) (by unfold mx; omega)) .bool fun _ _ => ?_
  cases hh : hasPre (s.drop a) p
  · simp [putA]
    exact fin_rd (a := a) (b := true) rfl (fun _ _ => .tup (by simp)) (.refl _) ⟨rfl,by simp⟩
  · have hl := drop_pre (hasPre_len hh) ha
    have hw : IntKind.i64.wrap ((a : Int) + p.length) = ((a + p.length : Nat) : Int) := by rw [wrap64 (by omega) (by omega)]; omega
    simp [putA,hw,-Int.natCast_add]
    exact fin_rd (a := a + p.length) (b := b) rfl (fun _ _ => .tup (by simp)) (.refl _) ⟨rfl,by simp⟩
def untGo (s : List UInt8) (x : UInt8) : Nat → Nat → Option Nat
  | 0,_ => none
  | f + 1,i => match s[i]? with | none => none | some y => if y = x then some i else untGo s x f (i + 1)
def untO (s : List UInt8) (a : Nat) (x : UInt8) : Option Nat := untGo s x 20 a
theorem untGo_bnd {s : List UInt8} {x : UInt8} : ∀ (f i : Nat) {j : Nat},untGo s x f i = some j → i ≤ j ∧ j < s.length
  | 0,_,_,h => by cases h
  | f + 1,i,j,h => by
    rw [untGo] at h
    cases hx : s[i]? with
    | none => rw [hx] at h; cases h
    | some y =>
      rw [hx] at h
      have hl := (List.getElem?_eq_some_iff.1 hx).1
      simp only at h
      split at h
      · cases h; exact ⟨Nat.le_refl _,hl⟩
      · have := untGo_bnd f (i + 1) h
        omega
theorem untO_bnd {s : List UInt8} {a : Nat} {x : UInt8} {j : Nat} (h : untO s a x = some j) : a ≤ j ∧ j < s.length := untGo_bnd 20 a h
def untS (s : List UInt8) (a : Nat) (x : UInt8) : List UInt8 := match untO s a x with | none => [] | some j => (s.take j).drop a
def untA (s : List UInt8) (a : Nat) (x : UInt8) : Nat := match untO s a x with | none => a | some j => j + 1
def untB (s : List UInt8) (a : Nat) (x : UInt8) (b : Bool) : Bool := match untO s a x with | none => true | some j => b
theorem untS_len (s : List UInt8) (a : Nat) (x : UInt8) : (untS s a x).length ≤ s.length := by
  unfold untS
  split
  · simp
  · simp; omega
theorem untA_bnd {s : List UInt8} {a : Nat} (x : UInt8) (ha : a ≤ s.length) : a ≤ untA s a x ∧ untA s a x ≤ s.length := by
  unfold untA
  split
  · exact ⟨Nat.le_refl _,ha⟩
  · rename_i j hj
    have := untO_bnd hj
    omega
theorem byte_eq {x y : UInt8} : (x.toNat : Int) = (y.toNat : Int) ↔ x = y := ⟨fun h => UInt8.toNat_inj.1 (by omega),fun h => by rw [h]⟩
set_option maxHeartbeats 1000000 in
theorem impl_until {s : List UInt8} {x : UInt8} {t a : Nat} {b : Bool} (hs : s.length ≤ 1048576) (ha : a ≤ s.length) (c : Nat) :
    Con Tryz.prog 201 [.ptr 0 t 3 0 0,.int .u8 x.toNat] [rdo s t a b] c fun r O _ => RdQ c s t (fun r a' b' => r = .str (untS s a x) ∧ a' = untA s a x ∧ b' = untB s a x b) r O := by
  refine con_of c201 (by simp [F201]) ?_
  unfold F201
  simp [rdo]
  refine loop_drop 20 (fun k e H c' => ∃ i : Nat,i = a + k ∧ e 0 = .ptr 0 t 3 0 0 ∧ e 1 = .int .u8 x.toNat ∧ e 5 = .int .i64 a ∧ e 6 = .int .i64 i ∧ untO s a x = untGo s x (20 - k) i ∧ H = [rdo s t a b]) ⟨a,by omega,rfl,rfl,rfl,rfl,rfl,rfl⟩ ?_
  intro k e H c' hk ⟨i,hi,e0,e1,e5,e6,hu,hH⟩ N hN
  subst hH
  have hw20 : IntKind.i64.wrap ((a : Int) + 20) = (a : Int) + 20 := wrap64 (by omega) (by omega)
  have none_of : untO s a x = none → untS s a x = [] ∧ untA s a x = a ∧ untB s a x b = true := fun h => by unfold untS untA untB; rw [h]; exact ⟨rfl,rfl,rfl⟩
  by_cases hin : i < s.length
  rotate_left
  · have hin' : ¬ (i : Int) < s.length := by omega
    have hn : untO s a x = none := by
      rw [hu]
      cases h : 20 - k with
      | zero => rfl
      | succ f => rw [untGo,List.getElem?_eq_none (by omega)]
    obtain ⟨h1,h2,h3⟩ := none_of hn
    simp [rdo,e0,e1,e5,e6,hin,putA]
    exact fin_rd (a := a) (b := true) rfl (fun _ _ => .str) (.refl _) ⟨by rw [h1],by rw [h2],by rw [h3]⟩
  by_cases hk20 : k < 20
  rotate_left
  · have hke : k = 20 := by omega
    have hn : untO s a x = none := by rw [hu,hke]; rfl
    obtain ⟨h1,h2,h3⟩ := none_of hn
    have hlt : ¬ (i : Int) < (a : Int) + 20 := by omega
    simp [rdo,e0,e1,e5,e6,hin,hw20,hlt,putA]
    exact fin_rd (a := a) (b := true) rfl (fun _ _ => .str) (.refl _) ⟨by rw [h1],by rw [h2],by rw [h3]⟩
  have hlt : (i : Int) < (a : Int) + 20 := by omega
  have hw1 : IntKind.i64.wrap ((i : Int) + 1) = ((i + 1 : Nat) : Int) := by rw [wrap64 (by omega) (by omega)]; omega
  obtain ⟨y,hy⟩ : ∃ y,s[i]? = some y := ⟨_,List.getElem?_eq_getElem hin⟩
  rw [show 20 - k = (19 - k) + 1 by omega,untGo,hy] at hu
  simp only at hu
  by_cases hyx : y = x
  · subst hyx
    rw [if_pos rfl] at hu
    have h1 : untS s a y = (s.take i).drop a := by unfold untS; rw [hu]
    have h2 : untA s a y = i + 1 := by unfold untA; rw [hu]
    have h3 : untB s a y b = b := by unfold untB; rw [hu]
    have hai : a ≤ i := by omega
    have hil : i ≤ s.length := by omega
    simp [rdo,e0,e1,e5,e6,hin,hw20,hlt,getW_of hy,hw1,putA,hai,hil,-Int.natCast_add]
    exact fin_rd (a := i + 1) (b := b) rfl (fun _ _ => .str) (.refl _) ⟨by rw [h1],by rw [h2],by rw [h3]⟩
  · rw [if_neg hyx] at hu
    have hne : ¬ ((y.toNat : Int) = x.toNat) := fun h => hyx (byte_eq.1 h)
    have hne' : ¬ (y.toNat = x.toNat) := fun h => hne (by omega)
    simp [rdo,e0,e1,e5,e6,hin,hw20,hlt,getW_of hy,hne,hne',hyx,-Int.natCast_add]
    exact hN _ _ [rdo s t a b] _ hk20 (by simp [rdo]) ⟨i + 1,by omega,by simp [upd,e0],by simp [upd,e1],by simp [upd,e5],by simp [upd]; exact step64 (by unfold mx; omega) hin,by rw [hu,show 19 - k = 20 - (k + 1) by omega],rfl⟩
def cntN (s : List UInt8) (a : Nat) : Nat := if pwOk (untS s a 58) 0 1000000000000 then (atoiN (untS s a 58)).toNat else 0
def cntB (s : List UInt8) (a : Nat) (b : Bool) : Bool := untB s a 58 b || !pwOk (untS s a 58) 0 1000000000000
theorem cntN_le (s : List UInt8) (a : Nat) : cntN s a ≤ 1000000000000 := by
  unfold cntN
  split
  · rename_i h
    unfold pwOk at h
    simp at h
    omega
  · omega
theorem cnt_int (s : List UInt8) (a : Nat) : (if pwOk (untS s a 58) 0 1000000000000 then atoiN (untS s a 58) else 0) = (cntN s a : Int) := by
  unfold cntN
  split
  · rename_i h
    unfold pwOk at h
    simp at h
    omega
  · rfl
theorem impl_count {s : List UInt8} {t a : Nat} {b : Bool} (hs : s.length ≤ 1048576) (ha : a ≤ s.length) (c : Nat) :
    Con Tryz.prog 203 [.ptr 0 t 3 0 0] [rdo s t a b] c fun r O _ => RdQ c s t (fun r a' b' => r = .int .i64 (cntN s a) ∧ a' = untA s a 58 ∧ b' = cntB s a b) r O := by
  refine con_of c203 (by simp [F203]) ?_
  unfold F203
  have hul := untS_len s a 58
  simp
  refine call_rd (s := s) (t := t) (a := a) (b := b) rfl (impl_until (x := 58) hs ha c) fun r a' b' c' _ _ ⟨h1,h2,h3⟩ => ?_
  subst h1 h2 h3
  simp
  refine call_fn0 (parseInt_fn (by omega)) (free_ib _ _) fun _ _ => ?_
  rw [cnt_int]
  have hb : cntB s a b = (untB s a 58 b || !pwOk (untS s a 58) 0 1000000000000) := rfl
  generalize untB s a 58 b = ub at *
  generalize pwOk (untS s a 58) 0 1000000000000 = po at *
  cases ub <;> cases po <;> simp [rdo,putA] <;> exact fin_rd rfl (fun _ _ => .int) (.refl _) ⟨rfl,rfl,by rw [hb]; rfl⟩
set_option maxRecDepth 100000
theorem con_lt {P : Program} {f : Nat} {args : List AV} {H : List AObj} {c : Nat} {Q : AV → List AObj → Nat → Prop} (h : (∀ t,t ∈ tags H → t < c) → (tags H).Nodup → Con P f args H c Q) : Con P f args H c Q :=
  fun G w vs e I hs hr => h (fun t ht => e ▸ I.lt ht) I.nodup G w vs e I hs hr
theorem viewG {S : List AObj} {l l' : List AV} (h : Views S l l') (hc : ∀ a,a ∈ l' → a.cell = true) : View S (.agg l) (.agg l') := .agg h.spec.1 (fun j a ha => hc a (List.mem_of_getElem? ha)) h.spec.2
def mkV (k n : Int) (s : List UInt8) : TValue := .mk k n s 0 .nil
theorem mkV_enc (k n : Int) (s : List UInt8) : (mkV k n s).enc = [.int .i64 k,.int .i64 n,.str s,.int .i64 0,.nsl] := TValue.enc_mk _ _ _ _ _
theorem mkV_sz (k n : Int) (s : List UInt8) : (mkV k n s).sz = s.length := by rw [mkV,TValue.sz_mk]; simp [szL]
theorem free_val : ∀ v : TValue,Av [] (.agg v.enc) := by
  refine TValue.ind2 fun v ih => .agg fun j a ha => ?_
  have h1 := List.mem_of_getElem? ha
  rw [TValue.enc_eq] at h1
  simp at h1
  rcases h1 with rfl | rfl | rfl | rfl | rfl
  · exact .int
  · exact .int
  · exact .str
  · exact .int
  · cases hI : v.Items with
    | nil => exact .nsl
    | mk t l =>
      refine .slc (by simp) fun r j x a hx ha => ?_
      obtain ⟨e,he,rfl⟩ := List.mem_map.1 (List.mem_of_getElem? hx)
      have h2 := List.mem_of_getElem? ha
      simp only [encE,TKey.enc,List.mem_append,List.mem_cons,List.not_mem_nil,or_false] at h2
      rcases h2 with (rfl | rfl | rfl) | h2
      · exact .bool
      · exact .int
      · exact .str
      · obtain ⟨j2,hj2⟩ := List.mem_iff_getElem?.1 h2
        have := ih e (by rw [hI]; exact he)
        cases this with
        | agg h => exact h j2 a hj2
theorem free_mkV (k n : Int) (s : List UInt8) (T : List Nat) : Av T (.agg (mkV k n s).enc) := by
  rw [mkV_enc]
  refine .agg fun j a ha => ?_
  have h1 := List.mem_of_getElem? ha
  simp at h1
  rcases h1 with rfl | rfl | rfl | rfl | rfl
  · exact .int
  · exact .int
  · exact .str
  · exact .int
  · exact .nsl
theorem from_mkV (k n : Int) (s : List UInt8) (c : Nat) : From c (.agg (mkV k n s).enc) := fun T _ => free_mkV k n s T
theorem intV_fn (n : Int) : Fnc Tryz.prog 202 [.int .i64 n] (.agg (mkV 2 n []).enc) := by
  refine fn_of c202 (by simp [F202]) fun c => ?_
  unfold F202
  simp [putA]
  exact fin_plain ⟨by rw [mkV_enc],rfl⟩
theorem textV_fn (s : List UInt8) : Fnc Tryz.prog 204 [.str s] (.agg (mkV 3 0 s).enc) := by
  refine fn_of c204 (by simp [F204]) fun c => ?_
  unfold F204
  simp [putA]
  exact fin_plain ⟨by rw [mkV_enc],rfl⟩
theorem nullV_fn : Fnc Tryz.prog 166 [] (.agg (mkV 0 0 []).enc) := by
  refine fn_of c166 (by simp [F166]) fun c => ?_
  unfold F166
  simp [putA]
  exact fin_plain ⟨by rw [mkV_enc],rfl⟩
theorem intKey_fn (n : Int) : Fnc Tryz.prog 230 [.int .i64 n] (.agg (TKey.mk false n []).enc) := by
  refine fn_of c230 (by simp [F230]) fun c => ?_
  unfold F230
  simp [putA]
  exact fin_plain ⟨rfl,rfl⟩
def textKey (s : List UInt8) : TKey := match sgS s with | some n => ⟨false,n,[]⟩ | none => ⟨true,0,s⟩
theorem free_key (k : TKey) : ∀ T,Av T (.agg k.enc) := fun T => .agg fun j a ha => by
  have h1 := List.mem_of_getElem? ha
  simp [TKey.enc] at h1
  rcases h1 with rfl | rfl | rfl
  · exact .bool
  · exact .int
  · exact .str
theorem textKey_fn {s : List UInt8} (hs : s.length ≤ 1048576) : Fnc Tryz.prog 231 [.str s] (.agg (textKey s).enc) := by
  refine fn_of c231 (by simp [F231]) fun c => ?_
  unfold F231
  simp
  refine call_fn0 (implSigned_fn hs) (free_ib _ _) fun _ _ => ?_
  cases h : sgS s with
  | none =>
    have e : textKey s = ⟨true,0,s⟩ := by unfold textKey; rw [h]
    simp [putA]
    exact fin_plain ⟨by rw [e]; rfl,rfl⟩
  | some n =>
    have e : textKey s = ⟨false,n,[]⟩ := by unfold textKey; rw [h]
    simp
    refine call_fn0 (intKey_fn n) (free_key _ _) fun _ _ => ?_
    simp [putA]
    exact fin_plain ⟨by rw [e],rfl⟩
def keyOf (v : TValue) : TKey := if v.Kind = 0 then ⟨true,0,[]⟩ else if v.Kind = 1 ∨ v.Kind = 2 then ⟨false,v.Num,[]⟩ else if v.Kind = 3 then textKey v.Str else ⟨false,0,[]⟩
def keyOk (v : TValue) : Bool := decide (v.Kind = 0) || decide (v.Kind = 1) || decide (v.Kind = 2) || decide (v.Kind = 3)
theorem keyOf_len (v : TValue) : (keyOf v).Str.length ≤ v.sz := by
  have hs : v.Str.length ≤ v.sz := by rw [TValue.sz_eq]; omega
  unfold keyOf textKey
  split
  · simp
  · split
    · simp
    · split
      · split
        · simp
        · exact hs
      · simp
theorem keyOf_fn {v : TValue} (hs : v.Str.length ≤ 1048576) : Fnc Tryz.prog 222 [.agg v.enc] (.tup [.agg (keyOf v).enc,.bool (keyOk v)]) := by
  refine fn_of c222 (by simp [F222]) fun c => ?_
  unfold F222
  by_cases k0 : v.Kind = 0
  · have e1 : keyOf v = ⟨true,0,[]⟩ := by unfold keyOf; rw [if_pos k0]
    have e2 : keyOk v = true := by unfold keyOk; simp [k0]
    simp [k0,putA]
    exact fin_plain ⟨by rw [e1,e2]; rfl,rfl⟩
  by_cases k1 : v.Kind = 1
  · have e1 : keyOf v = ⟨false,v.Num,[]⟩ := by unfold keyOf; rw [if_neg k0,if_pos (.inl k1)]
    have e2 : keyOk v = true := by unfold keyOk; simp [k1]
    simp [k1]
    refine call_fn0 (intKey_fn _) (free_key _ _) fun _ _ => ?_
    simp [putA]
    exact fin_plain ⟨by rw [e1,e2],rfl⟩
  by_cases k2 : v.Kind = 2
  · have e1 : keyOf v = ⟨false,v.Num,[]⟩ := by unfold keyOf; rw [if_neg k0,if_pos (.inr k2)]
    have e2 : keyOk v = true := by unfold keyOk; simp [k2]
    simp [k2]
    refine call_fn0 (intKey_fn _) (free_key _ _) fun _ _ => ?_
    simp [putA]
    exact fin_plain ⟨by rw [e1,e2],rfl⟩
  by_cases k3 : v.Kind = 3
  · have e1 : keyOf v = textKey v.Str := by unfold keyOf; rw [if_neg k0,if_neg (by rintro (h | h) <;> omega),if_pos k3]
    have e2 : keyOk v = true := by unfold keyOk; simp [k3]
    simp [k3]
    refine call_fn0 (textKey_fn hs) (free_key _ _) fun _ _ => ?_
    simp [putA]
    exact fin_plain ⟨by rw [e1,e2],rfl⟩
  · have e1 : keyOf v = ⟨false,0,[]⟩ := by unfold keyOf; rw [if_neg k0,if_neg (by rintro (h | h) <;> omega),if_neg k3]
    have e2 : keyOk v = false := by unfold keyOk; simp [k0,k1,k2,k3]
    simp [k0,k1,k2,k3,putA]
    exact fin_plain ⟨by rw [e1,e2]; rfl,rfl⟩
def SV (v : TValue) : Prop := isVal v = true ∧ inR v.Kind 0 3 = true ∧ v.Items = .nil
def VlQ (s : List UInt8) (a : Nat) (b : Bool) (d : Nat) (r : AV) (a' : Nat) (b' : Bool) : Prop :=
  ∃ v : TValue,r = .agg v.enc ∧ (v.Kind ≠ 4 → v.Items = .nil) ∧ a + v.sz ≤ a' ∧ a' ≤ s.length ∧ (b = true → b' = true) ∧ (b' = false → a + v.sz + 1 ≤ a') ∧ ∀ v0,SV v0 → b = false → d ≤ 200 → s.drop a = ser v0 → v = v0 ∧ a' = s.length ∧ b' = false
def ArQ (s : List UInt8) (a : Nat) (r : AV) (a' : Nat) (b' : Bool) : Prop :=
  ∃ v : TValue,r = .agg v.enc ∧ v.Kind = 4 ∧ a + v.sz ≤ a' + 1 ∧ a' ≤ s.length ∧ (b' = false → a + v.sz ≤ a')
set_option maxRecDepth 100000
theorem call_bufP {P : Program} {K : AV → List AObj → Nat → Prop} {f : Nat} {args : List AV} {t n i : Nat} {rows : List (List AV)} {A C : List AObj} {p : List UInt8 → Prop} {c : Nat} (hf : Con P f (.ref 0 t 1 n :: args) [⟨false,t,1,rows⟩] c fun r O _ => ∃ m,p m ∧ BufQ m r O)
    (k : ∀ m t' c',p m → c ≤ c' → K (.ref i t' 1 m.length) (A ++ ⟨false,t',1,m.map byteRow⟩ :: C) c') : CallW P f (.ref i t 1 n :: args) (A ++ ⟨false,t,1,rows⟩ :: C) c K := by
  intro hn hlt
  obtain ⟨h1,h2⟩ := (Views.cons (S := []) (.name (i := i) (j := 0) (tag := t) (w := 1) (len := n)) (Views.refl [] args)).spec
  refine ⟨[⟨false,t,1,rows⟩],[],_,_,(List.singleton_sublist.2 (by simp)),by simp,by simp [tags],h1,h2,hf,fun r O c' hc hq ho hd => ?_⟩
  obtain ⟨m,hpm,t',rfl,rfl⟩ := hq
  have et : ∀ (x : Nat) (rs : List (List AV)),tags (A ++ ⟨false,x,1,rs⟩ :: C) = tags A ++ x :: tags C := fun x rs => by simp [tags]
  rw [et] at hn hlt
  obtain ⟨n1,n2,n3⟩ := List.nodup_append.1 hn
  obtain ⟨n4,n5⟩ := List.nodup_cons.1 n2
  have hnew : ∀ x,x ∈ tags A ∨ x ∈ tags C → x ≠ t' := fun x hx e => by
    subst e
    have hxc : x < c := hlt x (by rcases hx with h | h <;> simp [h])
    have := ho x hxc (by simp [tags])
    simp [tags] at this
    subst this
    rcases hx with h | h
    · exact n3 _ h _ (List.mem_cons_self ..) rfl
    · exact n4 h
  refine ⟨A ++ ⟨false,t',1,m.map byteRow⟩ :: C,.ref i t' 1 m.length,fun o h => ?_,?_,.name,.ref,fun o _ h => ?_,k m t' c' hpm hc⟩
  · simp only [List.mem_append,List.mem_cons] at h
    rcases h with h | rfl | h
    · refine .inr ⟨by simp [h],fun hm => ?_⟩
      simp [tags] at hm
      exact n3 _ (mem_tags h) _ (List.mem_cons_self ..) hm
    · exact .inl (by simp)
    · refine .inr ⟨by simp [h],fun hm => ?_⟩
      simp [tags] at hm
      exact n4 (hm ▸ mem_tags h)
  · rw [et]
    refine List.nodup_append.2 ⟨n1,List.nodup_cons.2 ⟨fun h => hnew _ (.inr h) rfl,n5⟩,fun x hx y hy => ?_⟩
    rcases List.mem_cons.1 hy with rfl | hy
    · exact hnew x (.inl hx)
    · exact n3 x hx y (List.mem_cons_of_mem _ hy)
  · simp only [List.mem_singleton] at h
    subst h
    exact av_rows _ _ _
theorem ser_le {v : TValue} (n0 : -1000000000 ≤ v.Num) (n1 : v.Num ≤ 1000000000) (hs : v.Str.length ≤ 1048576) : (ser v).length ≤ v.Str.length + 64 := by
  have i1 := itoa_le (n := v.Num) (by omega) (by omega)
  have i2 := itoa_le (n := (v.Str.length : Int)) (by omega) (by omega)
  unfold ser
  split
  · simp
  split
  · simp; omega
  split
  · simp; omega
  · simp; omega
def kv (k : TKey) : TValue := if k.Text then mkV 3 0 k.Str else mkV 2 k.Num []
theorem keyValue_fn (k : TKey) : Fnc Tryz.prog 193 [.agg k.enc] (.agg (kv k).enc) := by
  refine fn_of c193 (by simp [F193]) fun c => ?_
  unfold F193
  cases h : k.Text
  · have e : kv k = mkV 2 k.Num [] := by unfold kv; rw [h]; rfl
    simp [h]
    refine call_fn0 (intV_fn _) (free_mkV _ _ _ _) fun _ _ => ?_
    simp [putA]
    exact fin_plain ⟨by rw [e],rfl⟩
  · have e : kv k = mkV 3 0 k.Str := by unfold kv; rw [h]; rfl
    simp [h]
    refine call_fn0 (textV_fn _) (free_mkV _ _ _ _) fun _ _ => ?_
    simp [putA]
    exact fin_plain ⟨by rw [e],rfl⟩
set_option maxHeartbeats 1000000 in
theorem impl_serS {v : TValue} {l : List UInt8} {t : Nat} (h0 : 0 ≤ v.Kind) (h3 : v.Kind ≤ 3) (n0 : -1000000000 ≤ v.Num) (n1 : v.Num ≤ 1000000000) (hs : v.Str.length ≤ 1048576) (hl : l.length ≤ 1073741824) (c : Nat) : Con Tryz.prog 157 [.ref 0 t 1 l.length,.agg v.enc] [⟨false,t,1,l.map byteRow⟩] c fun r O _ => BufQ (l ++ ser v) r O := by
  refine con_of c157 (by simp [F157]) ?_
  unfold F157
  have i1 := itoa_le (n := v.Num) (by omega) (by omega)
  have i2 := itoa_le (n := (v.Str.length : Int)) (by omega) (by omega)
  have fin : ∀ {t c' : Nat} (m : List UInt8) {n : Nat} {T : List AObj} {rows : List (List AV)},n = m.length → rows = m.map byteRow → m = l ++ ser v → finW (fun r O _ => BufQ (l ++ ser v) r O) (.ref 0 t 1 n) (⟨false,t,1,rows⟩ :: T) c' := fun {t c'} m {n T rows} hn hr hm => by
    subst hn hr hm
    exact fin_buf rfl rfl fun _ _ h => h
  generalize hI : Lib.itoa v.Num = I at i1
  generalize hJ : Lib.itoa (v.Str.length : Int) = J at i2
  have m1 : 1073741824 + 2000000 ≤ mx := by unfold mx; omega
  by_cases k0 : v.Kind = 0
  · have a1 : l.length + 2 ≤ mx := by omega
    have a2 : l.length + 2 ≤ 140737488355328 := by omega
    have a3 : 2 ≤ mx := by omega
    simp [k0,a1,a2,a3]
    refine fin (l ++ [78,59]) ?_ ?_ ?_
    · simp
    · simp
    · simp [ser,k0]
  have b1 : I.length + 1 + 1 ≤ mx := by omega
  have b2 : I.length + 1 + 1 + 1 ≤ mx := by omega
  have b3 : 2 + I.length ≤ mx := by omega
  have b4 : 2 + I.length + 1 ≤ mx := by omega
  have b5 : l.length + (I.length + 1 + 1 + 1) ≤ mx := by omega
  have b6 : l.length + (I.length + 1 + 1 + 1) ≤ 140737488355328 := by omega
  by_cases k1 : v.Kind = 1
  · simp [k1]
    refine call_fn0 (implFmtI_fn (by omega) (by omega)) .str fun _ _ => ?_
    simp [hI,b1,b2,b3,b4,b5,b6]
    refine fin (l ++ 98 :: 58 :: (I ++ [59])) ?_ ?_ ?_
    · simp
    · simp
    · simp [ser,k1,hI]
  by_cases k2 : v.Kind = 2
  · simp [k2]
    refine call_fn0 (implFmtI_fn (by omega) (by omega)) .str fun _ _ => ?_
    simp [hI,b1,b2,b3,b4,b5,b6]
    refine fin (l ++ 105 :: 58 :: (I ++ [59])) ?_ ?_ ?_
    · simp
    · simp
    · simp [ser,k2,hI]
  have k3 : v.Kind = 3 := by omega
  simp [k3]
  refine callF_fn0 (implFmtI_fn (by omega) (by omega)) .str fun _ _ => ?_
  rw [hJ]
  have d1 : J.length + 1 + 1 ≤ mx := by omega
  have d2 : J.length + 1 + 1 + 1 ≤ mx := by omega
  have d3 : J.length + 1 + 1 + 1 + v.Str.length ≤ mx := by omega
  have d4 : J.length + (v.Str.length + 1) + 1 + 1 ≤ mx := by omega
  have d5 : J.length + (v.Str.length + 1) + 1 + 1 + 1 ≤ mx := by omega
  have d6 : 2 + J.length ≤ mx := by omega
  have d7 : J.length + (v.Str.length + 1 + 1) + 1 + 1 ≤ mx := by omega
  have d8 : l.length + (J.length + (v.Str.length + 1 + 1) + 1 + 1) ≤ 140737488355328 := by omega
  have d9 : l.length + (J.length + (v.Str.length + 1 + 1) + 1 + 1) ≤ mx := by omega
  simp [d1,d2,d3,d4,d5,d6,d7,d8,d9]
  refine fin (l ++ 115 :: 58 :: (J ++ 58 :: (v.Str ++ [59]))) ?_ ?_ ?_
  · simp
  · simp
  · simp [ser,k3,hJ]
theorem free_kv (k : TKey) (T : List Nat) : Av T (.agg (kv k).enc) := by
  unfold kv
  split
  · exact free_mkV _ _ _ _
  · exact free_mkV _ _ _ _
theorem kv_ok {k : TKey} (h : isKey k = true) : 0 ≤ (kv k).Kind ∧ (kv k).Kind ≤ 3 ∧ -1000000000 ≤ (kv k).Num ∧ (kv k).Num ≤ 1000000000 ∧ (kv k).Str.length ≤ k.Str.length ∧ k.Str.length ≤ 400 := by
  unfold isKey at h
  unfold kv mkV
  cases hT : k.Text
  · rw [hT] at h
    simp at h
    have := inR_iff2 h.2
    simp only [TValue.Kind,TValue.Num,TValue.Str,Bool.false_eq_true,if_false]
    refine ⟨by omega,by omega,this.1,this.2,by simp,by rw [h.1]; simp⟩
  · rw [hT] at h
    simp at h
    simp only [TValue.Kind,TValue.Num,TValue.Str,if_true]
    exact ⟨by omega,by omega,by omega,by omega,Nat.le_refl _,by omega⟩
theorem szL_split {α : Type} {f : α → Nat} (l : List α) (i : Nat) : szL f l = szL f (l.take i) + szL f (l.drop i) := by
  unfold szL
  rw [← List.sum_append,← List.map_append,List.take_append_drop]
theorem szL_take {α : Type} {f : α → Nat} {l : List α} {i : Nat} {x : α} (hx : l[i]? = some x) : szL f (l.take (i + 1)) = szL f (l.take i) + f x := by
  have h := (List.getElem?_eq_some_iff.1 hx)
  rw [List.take_succ_eq_append_getElem h.1,h.2]
  simp [szL]
set_option maxHeartbeats 2000000 in
theorem impl_serA : ∀ v : TValue,v.gd → v.plain → v.sz ≤ 1048576 → ∀ (l : List UInt8) (t c : Nat),l.length + 128 * v.sz + 64 ≤ 1073741824 → Con Tryz.prog 157 [.ref 0 t 1 l.length,.agg v.enc] [⟨false,t,1,l.map byteRow⟩] c fun r O _ => ∃ m : List UInt8,m.length ≤ l.length + 128 * v.sz + 64 ∧ BufQ m r O := by
  refine TValue.ind2 fun v ih hg hp hz l t c hl => ?_
  have g := (gd_iff v).1 hg
  have hst : v.Str.length ≤ v.sz := by rw [TValue.sz_eq]; omega
  by_cases h4 : v.Kind = 4
  rotate_left
  · have hk := inR_iff2 ((plain_one h4).1 hp)
    have hn : -1000000000 ≤ v.Num ∧ v.Num ≤ 1000000000 := by
      by_cases k0 : v.Kind = 0
      · rw [g.n0 k0]; omega
      by_cases k1 : v.Kind = 1
      · rcases g.n1 k1 with h | h <;> omega
      by_cases k2 : v.Kind = 2
      · exact inR_iff2 (g.n2 k2)
      · rw [(g.n3 (by omega)).1]; omega
    have := ser_le hn.1 hn.2 (by omega : v.Str.length ≤ 1048576)
    exact (impl_serS hk.1 hk.2 hn.1 hn.2 (by omega) (by omega) c).mono fun r O c' _ h => ⟨l ++ ser v,by rw [List.length_append]; omega,h⟩
  have hil := items_len v
  have hpl := (plain_arr h4).1 hp
  have hnx := inR_iff2 (g.a1 h4)
  refine con_of c157 (by simp [F157]) ?_
  unfold F157
  have i1 := itoa_le (n := (v.Items.list.length : Int)) (by omega) (by omega)
  have i2 := itoa_le (n := v.Next) (by omega) (by omega)
  simp [h4]
  refine callF_fn0 (implFmtI_fn (by omega) (by omega)) .str fun _ _ => ?_
  generalize Lib.itoa (v.Items.list.length : Int) = I at i1
  have m1 : 1073741824 + 2000000 ≤ mx := by unfold mx; omega
  have d1 : I.length + 1 + 1 ≤ mx := by omega
  have d2 : I.length + 1 + 1 + 1 ≤ mx := by omega
  have d6 : 2 + I.length ≤ mx := by omega
  simp [d1,d2,d6]
  refine callF_fn0 (implFmtI_fn (by omega) (by omega)) .str fun c8 _ => ?_
  generalize Lib.itoa v.Next = J at i2
  have d3 : I.length + 1 + 1 + 1 + J.length ≤ mx := by omega
  have d4 : I.length + (J.length + 1) + 1 + 1 ≤ mx := by omega
  have d5 : I.length + (J.length + 1) + 1 + 1 + 1 ≤ mx := by omega
  have d7 : I.length + (J.length + 1 + 1) + 1 + 1 ≤ mx := by omega
  have d8 : l.length + (I.length + (J.length + 1 + 1) + 1 + 1) ≤ 140737488355328 := by omega
  have d9 : l.length + (I.length + (J.length + 1 + 1) + 1 + 1) ≤ mx := by omega
  simp [d1,d2,d3,d4,d5,d6,d7,d8,d9]
  refine loop_drop v.Items.list.length (fun i e H c' => ∃ (t' tb : Nat) (m : List UInt8),m.length ≤ l.length + 48 + 128 * szL szE (v.Items.list.take i) + 128 * i ∧ e 0 = .ref 0 t' 1 m.length ∧ e 59 = v.Items.av 8 encE ∧ e 60 = .int .i64 v.Items.list.length ∧ e 61 = .int .i64 i ∧ H = [⟨false,t',1,m.map byteRow⟩,⟨false,tb,5,[v.enc]⟩]) ?_ ?_
  · refine ⟨c8,c,l ++ (97 :: 58 :: (I ++ 58 :: (J ++ [123]))),?_,?_,by simp [upd],by simp [upd],by simp [upd],?_⟩
    · simp; omega
    · simp [upd]
    · simp
  intro i e H c2 hi ⟨t2,tb,m,hm,e0,e59,e60,e61,hH⟩ N hN
  subst hH
  have htot := TValue.sz_eq v
  have hsub : szL szE (v.Items.list.take i) + i ≤ szL szE v.Items.list + v.Items.list.length := by
    have e1 : szL szE v.Items.list = szL szE (v.Items.list.take i) + szL szE (v.Items.list.drop i) := szL_split _ _
    omega
  by_cases h : i < v.Items.list.length
  rotate_left
  · have hie : i = v.Items.list.length := by omega
    subst hie
    have q1 : m.length + 1 ≤ 140737488355328 := by omega
    have q2 : m.length + 1 ≤ mx := by omega
    simp [e0,e59,e60,e61,q1,q2]
    refine fin_buf (m := m ++ [125]) (by simp) (by simp [byteRow]) fun r O hb => ⟨m ++ [125],?_,hb⟩
    rw [List.take_length] at hm
    simp
    omega
  obtain ⟨x,hx⟩ : ∃ x,v.Items.list[i]? = some x := ⟨_,List.getElem?_eq_getElem h⟩
  have hxm := List.mem_of_getElem? hx
  have hxs := items_sz hxm
  have hk := kv_ok (g.a3 h4 x hxm).1
  have hstp := szL_take (f := szE) hx
  have hsx : szE x = x.1.Str.length + x.2.sz := rfl
  have hsub2 : szL szE (v.Items.list.take (i + 1)) + (i + 1) ≤ szL szE v.Items.list + v.Items.list.length := by
    have e1 : szL szE v.Items.list = szL szE (v.Items.list.take (i + 1)) + szL szE (v.Items.list.drop (i + 1)) := szL_split _ _
    omega
  simp [e0,e59,e60,e61,h,getW_of hx,putA]
  refine call_fn0 (keyValue_fn x.1) (free_kv _ _) fun c3 hc3 => ?_
  simp [e0]
  have hsk := ser_le hk.2.2.1 hk.2.2.2.1 (by omega : (kv x.1).Str.length ≤ 1048576)
  refine call_bufP (A := []) (p := fun m' => m'.length ≤ m.length + x.1.Str.length + 64) ((impl_serS hk.1 hk.2.1 hk.2.2.1 hk.2.2.2.1 (by omega) (by omega) _).mono fun r O c' _ hb => ⟨m ++ ser (kv x.1),by rw [List.length_append]; omega,hb⟩) fun m3 t3 c4 hm3 hc4 => ?_
  simp [e0,e59,e60,e61,putA]
  refine call_bufP (A := []) (p := fun m' => m'.length ≤ m3.length + 128 * x.2.sz + 64) (ih x hxm (g.a4 h4 x hxm) (hpl x hxm) (by omega) m3 t3 _ (by omega)) fun m4 t4 c5 hm4 hc5 => ?_
  simp [e0,e59,e60,e61]
  exact hN _ _ [⟨false,t4,1,m4.map byteRow⟩,⟨false,tb,5,[v.enc]⟩] _ h (by simp) ⟨t4,tb,m4,by rw [hstp,hsx]; omega,by simp [upd],by simp [upd,e59],by simp [upd,e60],by simp [upd]; exact step64 (n := v.Items.list.length) (by omega) h,rfl⟩
set_option maxHeartbeats 2000000 in
theorem impl_serN {v : TValue} (hg : v.gd) (hp : v.plain) (hz : v.sz ≤ 1048576) (h4 : v.Kind = 4) (c : Nat) : Con Tryz.prog 157 [.nsl,.agg v.enc] [] c fun r O _ => ∃ m : List UInt8,m.length ≤ 128 * v.sz + 64 ∧ BufQ m r O := by
  have g := (gd_iff v).1 hg
  have hil := items_len v
  have hpl := (plain_arr h4).1 hp
  have hnx := inR_iff2 (g.a1 h4)
  refine con_of c157 (by simp [F157]) ?_
  unfold F157
  have i1 := itoa_le (n := (v.Items.list.length : Int)) (by omega) (by omega)
  have i2 := itoa_le (n := v.Next) (by omega) (by omega)
  simp [h4]
  refine callF_fn0 (implFmtI_fn (by omega) (by omega)) .str fun _ _ => ?_
  generalize Lib.itoa (v.Items.list.length : Int) = I at i1
  have m1 : 1073741824 + 2000000 ≤ mx := by unfold mx; omega
  have d1 : I.length + 1 + 1 ≤ mx := by omega
  have d2 : I.length + 1 + 1 + 1 ≤ mx := by omega
  have d6 : 2 + I.length ≤ mx := by omega
  simp [d1,d2,d6]
  refine callF_fn0 (implFmtI_fn (by omega) (by omega)) .str fun c8 _ => ?_
  generalize Lib.itoa v.Next = J at i2
  have d3 : I.length + 1 + 1 + 1 + J.length ≤ mx := by omega
  have d4 : I.length + (J.length + 1) + 1 + 1 ≤ mx := by omega
  have d5 : I.length + (J.length + 1) + 1 + 1 + 1 ≤ mx := by omega
  have d7 : I.length + (J.length + 1 + 1) + 1 + 1 ≤ mx := by omega
  have d8 : (I.length + (J.length + 1 + 1) + 1 + 1) ≤ 140737488355328 := by omega
  have d9 : (I.length + (J.length + 1 + 1) + 1 + 1) ≤ mx := by omega
  simp [d1,d2,d3,d4,d5,d6,d7,d8,d9]
  refine loop_drop v.Items.list.length (fun i e H c' => ∃ (t' tb : Nat) (m : List UInt8),m.length ≤ 48 + 128 * szL szE (v.Items.list.take i) + 128 * i ∧ e 0 = .ref 1 t' 1 m.length ∧ e 59 = v.Items.av 8 encE ∧ e 60 = .int .i64 v.Items.list.length ∧ e 61 = .int .i64 i ∧ H = [⟨false,tb,5,[v.enc]⟩,⟨false,t',1,m.map byteRow⟩]) ?_ ?_
  · refine ⟨c8,c,97 :: 58 :: (I ++ 58 :: (J ++ [123])),?_,?_,by simp [upd],by simp [upd],by simp [upd],?_⟩
    · simp; omega
    · simp [upd]
    · simp
  intro i e H c2 hi ⟨t2,tb,m,hm,e0,e59,e60,e61,hH⟩ N hN
  subst hH
  have htot := TValue.sz_eq v
  have hsub : szL szE (v.Items.list.take i) + i ≤ szL szE v.Items.list + v.Items.list.length := by
    have e1 : szL szE v.Items.list = szL szE (v.Items.list.take i) + szL szE (v.Items.list.drop i) := szL_split _ _
    omega
  by_cases h : i < v.Items.list.length
  rotate_left
  · have hie : i = v.Items.list.length := by omega
    subst hie
    have q1 : m.length + 1 ≤ 140737488355328 := by omega
    have q2 : m.length + 1 ≤ mx := by omega
    simp [e0,e59,e60,e61,q1,q2]
    rw [List.take_length] at hm
    refine ⟨[],[⟨false,c2 + 1,1,(m ++ [125]).map byteRow⟩],[⟨false,c2 + 1,1,(m ++ [125]).map byteRow⟩],.ref 0 (c2 + 1) 1 (m ++ [125]).length,by simp [byteRow],.refl _ _,by simp,by simp [tags],?_,m ++ [125],?_,c2 + 1,rfl,rfl⟩
    · rw [List.length_append,List.length_singleton]
      exact .name
    · simp
      omega
  obtain ⟨x,hx⟩ : ∃ x,v.Items.list[i]? = some x := ⟨_,List.getElem?_eq_getElem h⟩
  have hxm := List.mem_of_getElem? hx
  have hxs := items_sz hxm
  have hk := kv_ok (g.a3 h4 x hxm).1
  have hstp := szL_take (f := szE) hx
  have hsx : szE x = x.1.Str.length + x.2.sz := rfl
  have hsub2 : szL szE (v.Items.list.take (i + 1)) + (i + 1) ≤ szL szE v.Items.list + v.Items.list.length := by
    have e1 : szL szE v.Items.list = szL szE (v.Items.list.take (i + 1)) + szL szE (v.Items.list.drop (i + 1)) := szL_split _ _
    omega
  simp [e0,e59,e60,e61,h,getW_of hx,putA]
  refine call_fn0 (keyValue_fn x.1) (free_kv _ _) fun c3 hc3 => ?_
  simp [e0]
  have hsk := ser_le hk.2.2.1 hk.2.2.2.1 (by omega : (kv x.1).Str.length ≤ 1048576)
  refine call_bufP (A := [⟨false,tb,5,[v.enc]⟩]) (p := fun m' => m'.length ≤ m.length + x.1.Str.length + 64) ((impl_serS hk.1 hk.2.1 hk.2.2.1 hk.2.2.2.1 (by omega) (by omega) _).mono fun r O c' _ hb => ⟨m ++ ser (kv x.1),by rw [List.length_append]; omega,hb⟩) fun m3 t3 c4 hm3 hc4 => ?_
  simp [e0,e59,e60,e61,putA]
  refine call_bufP (A := [⟨false,tb,5,[v.enc]⟩]) (p := fun m' => m'.length ≤ m3.length + 128 * x.2.sz + 64) (impl_serA x.2 (g.a4 h4 x hxm) (hpl x hxm) (by omega) m3 t3 _ (by omega)) fun m4 t4 c5 hm4 hc5 => ?_
  simp [e0,e59,e60,e61]
  exact hN _ _ [⟨false,tb,5,[v.enc]⟩,⟨false,t4,1,m4.map byteRow⟩] _ h (by simp) ⟨t4,tb,m4,by rw [hstp,hsx]; omega,by simp [upd],by simp [upd,e59],by simp [upd,e60],by simp [upd]; exact step64 (n := v.Items.list.length) (by omega) h,rfl⟩
end A
end Go.Proofs.YtgalkppgeoknaaaGreatDoor
