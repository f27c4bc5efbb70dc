import Derived.Test.YtgalkppgeoknaaaGreatDoorB09

/-
  ParseSigned of the program and of the reference; numbers with a sign, written. No condition.
-/
set_option linter.unusedVariables false
set_option linter.unusedSimpArgs false
namespace Go.Proofs.YtgalkppgeoknaaaGreatDoor
namespace A
set_option linter.unusedVariables false
set_option linter.unusedSimpArgs false
set_option maxRecDepth 100000
theorem inR_dgt (b : UInt8) : inR b.toNat 48 57 = dgt b := by
  unfold inR dgt
  congr 1 <;> exact decide_eq_decide.2 (by omega)
theorem specInt_all {l : List UInt8} (hl : l.length ≤ mx) : Fnc Tryz.prog 224 [.str l] (.tup [.int .i64 (if pn13 l then (dvl l 0 : Int) else 0),.bool (pn13 l)]) := by
  refine fn_of c224 (by simp [F224]) fun c => ?_
  unfold F224
  simp
  refine call_fn0 (l1In_fn _ _ _) .bool fun _ _ => ?_
  cases hin : inR l.length 1 13
  · have : pn13 l = false := by
      have h : ¬ (1 ≤ l.length ∧ l.length ≤ 13) := fun ⟨h1,h2⟩ => by
        have : inR l.length 1 13 = true := by simp [inR]; omega
        rw [hin] at this; cases this
      unfold pn13
      simp; omega
    simp
    exact fin_plain ⟨by simp [this],rfl⟩
  have hlen : 1 ≤ l.length ∧ l.length ≤ 13 := by have := inR_true hin; omega
  simp
  refine loop_drop l.length (fun i e H c' => e 0 = .str l ∧ e 4 = .int .i64 (dvl (l.take i) 0) ∧ e 5 = .int .i64 i ∧ (l.take i).all dgt = true ∧ H = []) ⟨rfl,by simp [upd,dvl],rfl,by simp,rfl⟩ ?_
  intro i e H c' hi ⟨e0,e4,e5,hall,hH⟩ N hN
  subst hH
  have hbd := dvl_le (l.take i) 0 hall
  have hbd2 : dvl (l.take i) 0 < 10000000000000 := by
    have : 10 ^ (l.take i).length ≤ 10 ^ 13 := Nat.pow_le_pow_right (by omega) (by simp; omega)
    omega
  by_cases h : i < l.length
  · have hx : l[i]? = some l[i] := List.getElem?_eq_getElem (by omega)
    have htk : l.take (i + 1) = l.take i ++ [l[i]] := List.take_succ_eq_append_getElem (by omega)
    generalize l[i] = b at hx htk
    have hstep : IntKind.i64.wrap ((i : Int) + 1) = ((i + 1 : Nat) : Int) := by rw [wrap64 (by omega) (by omega)]; rfl
    have hbl := b.toNat_lt
    simp [e0,e4,e5,h,getW_of hx,wrap_b]
    refine call_fn0 (l1In_fn _ _ _) .bool fun _ _ => ?_
    have bad : dgt b = false → pn13 l = false := fun hb => by
      have : l.all dgt = false := by
        rw [List.all_eq_false]
        exact ⟨b,List.mem_of_getElem? hx,by simp [hb]⟩
      unfold pn13; rw [this]; simp
    rw [inR_dgt]
    cases hb : dgt b
    · simp [e0,e4,e5]
      have := bad hb
      exact fin_plain ⟨by simp [this],rfl⟩
    have hb' := hb
    simp only [dgt,Bool.and_eq_true,decide_eq_true_eq] at hb'
    generalize hD : dvl (l.take i) 0 = D at e4 hbd2
    have hw1 : IntKind.i64.wrap (10 * (D : Int)) = ((10 * D : Nat) : Int) := by rw [wrap64 (by omega) (by omega)]; omega
    have hw2 : IntKind.u8.wrap ((b.toNat : Int) - 48) = ((b.toNat - 48 : Nat) : Int) := by rw [IntKind.wrap_u8]; omega
    have hw3 : IntKind.i64.wrap ((b.toNat - 48 : Nat) : Int) = ((b.toNat - 48 : Nat) : Int) := wrap64 (by omega) (by omega)
    have hw4 : IntKind.i64.wrap (((10 * D : Nat) : Int) + ((b.toNat - 48 : Nat) : Int)) = ((10 * D + (b.toNat - 48) : Nat) : Int) := by rw [wrap64 (by omega) (by omega)]; omega
    simp [e0,e4,e5,h,getW_of hx,hw1,hw2,hw3,hw4,hstep,-Int.natCast_add,-Int.natCast_mul]
    exact hN _ _ _ _ h (List.Sublist.refl _) ⟨by simp [upd,e0],by simp [upd,htk,dvl_app,hD,dvl,-Int.natCast_add,-Int.natCast_mul],by simp [upd,-Int.natCast_add],by rw [htk,List.all_append,hall]; simp [hb],rfl⟩
  · have hie : i = l.length := by omega
    subst hie
    rw [List.take_length] at e4 hall hbd2
    by_cases hk : dvl l 0 ≤ 1000000000000
    rotate_left
    · have hk' : (1000000000000 : Int) < (dvl l 0 : Int) := by omega
      have : pn13 l = false := by unfold pn13; simp [hk]
      simp [e0,e4,e5,hk']
      exact fin_plain ⟨by simp [this],rfl⟩
    have hk' : ¬ ((1000000000000 : Int) < (dvl l 0 : Int)) := by omega
    simp [e0,e4,e5,hk']
    refine call_fn0 (specFmt_fn (n := dvl l 0) (by omega)) .str fun _ _ => ?_
    by_cases hf : Lib.decDigits (dvl l 0) = l
    · have : pn13 l = true := by unfold pn13; simp [hall,hf,hk,hlen.2]; omega
      simp [e0,e4,e5,hf]
      exact fin_plain ⟨by simp [this],rfl⟩
    · have : pn13 l = false := by unfold pn13; simp [hf]
      simp [e0,e4,e5,hf]
      exact fin_plain ⟨by simp [this],rfl⟩
theorem free_ib (n : Int) (b : Bool) {T : List Nat} : Av T (.tup [.int .i64 n,.bool b]) := .tup fun j a hj => by
  match j,hj with
  | 0,hj => cases hj; exact .int
  | 1,hj => cases hj; exact .bool
theorem specSigned_fn {l : List UInt8} (hl : l.length ≤ mx) : Fnc Tryz.prog 209 [.str l] (.tup [.int .i64 ((sgS l).getD 0),.bool (sgS l).isSome]) := by
  refine fn_of c209 (by simp [F209]) fun c => ?_
  unfold F209
  have go : ∀ b : Bool,sgNeg l = b → (b = true → ∃ r,l = 45 :: r) → (b = false → sgBody l = l) := fun b h1 h2 h3 => by subst h3; unfold sgBody; rw [h1]; rfl
  cases hl0 : l with
  | nil =>
    subst hl0
    have hn : sgS [] = none := by decide
    simp
    refine call_fn0 (specInt_all (l := []) (by decide)) (free_ib _ _) fun _ _ => ?_
    have : pn13 [] = false := by decide
    simp [this]
    exact fin_plain ⟨by rw [hn]; rfl,rfl⟩
  | cons b r =>
    subst hl0
    have hpos : (0 : Int) < ((r.length : Int) + 1) := by omega
    have hrl : r.length ≤ mx := by simp at hl; omega
    have hb255 := b.toNat_lt
    by_cases hb : b = 45
    · subst hb
      have e1 : sgNeg (45 :: r) = true := rfl
      have e2 : sgBody (45 :: r) = r := rfl
      have hS : sgS (45 :: r) = if pn13 r && decide (dvl r 0 ≤ 1000000000) && !decide (dvl r 0 = 0) then some (-(dvl r 0 : Int)) else none := by
        unfold sgS; rw [e1,e2]; simp
      simp [hpos]
      refine call_fn0 (specInt_all hrl) (free_ib _ _) fun _ _ => ?_
      cases hp : pn13 r
      · rw [hp] at hS
        simp
        exact fin_plain ⟨by rw [hS]; rfl,rfl⟩
      rw [hp] at hS
      by_cases h2 : dvl r 0 ≤ 1000000000
      rotate_left
      · have k2 : (1000000000 : Int) < (dvl r 0 : Int) := by omega
        simp [k2]
        exact fin_plain ⟨by rw [hS]; simp [h2],rfl⟩
      have k2 : ¬ ((1000000000 : Int) < (dvl r 0 : Int)) := by omega
      by_cases h3 : dvl r 0 = 0
      · simp [k2,h3]
        exact fin_plain ⟨by rw [hS]; simp [h3],rfl⟩
      have hw : IntKind.i64.wrap (-(dvl r 0 : Int)) = -(dvl r 0 : Int) := wrap64 (by omega) (by omega)
      simp [k2,h3,hw]
      exact fin_plain ⟨by rw [hS]; simp [h2,h3],rfl⟩
    · have hbn : ¬ (b.toNat : Int) = 45 := fun h => hb (UInt8.toNat_inj.1 (by rw [show (45 : UInt8).toNat = 45 from rfl]; omega))
      have e1 : sgNeg (b :: r) = false := by unfold sgNeg; simp [hb]
      have e2 : sgBody (b :: r) = b :: r := by unfold sgBody; rw [e1]; rfl
      have hS : sgS (b :: r) = if pn13 (b :: r) && decide (dvl (b :: r) 0 ≤ 1000000000) then some (dvl (b :: r) 0 : Int) else none := by
        unfold sgS; rw [e1,e2]; simp
      simp [hpos,hbn]
      refine call_fn0 (specInt_all (l := b :: r) hl) (free_ib _ _) fun _ _ => ?_
      generalize b :: r = l at hS ⊢
      cases hp : pn13 l
      · rw [hp] at hS
        simp
        exact fin_plain ⟨by rw [hS]; rfl,rfl⟩
      rw [hp] at hS
      by_cases h2 : dvl l 0 ≤ 1000000000
      rotate_left
      · have k2 : (1000000000 : Int) < (dvl l 0 : Int) := by omega
        simp [k2,hbn]
        exact fin_plain ⟨by rw [hS]; simp [h2],rfl⟩
      have k2 : ¬ ((1000000000 : Int) < (dvl l 0 : Int)) := by omega
      simp [k2,hbn]
      exact fin_plain ⟨by rw [hS]; simp [h2],rfl⟩
theorem pw_sg (l : List UInt8) : (if pwOk l (-1000000000) 1000000000 then atoiN l else 0) = (sgS l).getD 0 ∧ pwOk l (-1000000000) 1000000000 = (sgS l).isSome := by
  have key : ∀ n,(pwOk l (-1000000000) 1000000000 = true ∧ atoiN l = n) ↔ sgS l = some n := fun n => by
    rw [sgS_iff]
    constructor
    · rintro ⟨h,rfl⟩
      simp only [pwOk,Bool.and_eq_true,decide_eq_true_eq] at h
      exact ⟨h.1.1.2,h.1.2,h.2⟩
    · rintro ⟨rfl,h0,h1⟩
      have ha := atoi_itoa (n := n) (by omega) (by omega)
      have hn : atoiN (Lib.itoa n) = n := by unfold atoiN; rw [ha]
      have he : atoiE (Lib.itoa n) = true := by unfold atoiE; rw [ha]
      have hlen : (Lib.itoa n).length ≤ 20 := by
        unfold Lib.itoa
        split
        · have := dd_len (m := n.natAbs) (k := 13) (by omega) (by omega); rw [List.length_cons]; omega
        · have := dd_len (m := n.toNat) (k := 13) (by omega) (by omega); omega
      exact ⟨by unfold pwOk; rw [hn,he]; simp [hlen,h0,h1],hn⟩
  cases hs : sgS l with
  | some n =>
    obtain ⟨h1,h2⟩ := (key n).2 hs
    rw [h1,h2]; exact ⟨rfl,rfl⟩
  | none =>
    cases hp : pwOk l (-1000000000) 1000000000 with
    | false => exact ⟨rfl,rfl⟩
    | true =>
      have := (key _).1 ⟨hp,rfl⟩
      rw [hs] at this; cases this
theorem implSigned_fn {l : List UInt8} (hl : l.length ≤ 1048576) : Fnc Tryz.prog 200 [.str l] (.tup [.int .i64 ((sgS l).getD 0),.bool (sgS l).isSome]) := by
  obtain ⟨h1,h2⟩ := pw_sg l
  refine fn_of c200 (by simp [F200]) fun c => ?_
  unfold F200
  simp
  refine call_fn0 (pw_fn hl) (free_ib _ _) fun _ _ => ?_
  rw [h1,h2]
  simp
  exact fin_plain ⟨rfl,rfl⟩
theorem specFmtN_fn {m : Nat} (h0 : 0 < m) (h1 : m ≤ 1000000000000000000) : Fnc Tryz.prog 179 [.int .i64 (-(m : Int))] (.str (45 :: Lib.decDigits m)) := by
  refine fn_of c179 (by simp [F179]) fun c => ?_
  unfold F179
  have hn' : ¬ (m : Int) = 0 := by omega
  have hlt : -(m : Int) < 0 := by omega
  have hpos : 0 < m := h0
  have hm0 : ¬ m = 0 := by omega
  simp [hm0]
  refine loop_drop 19 (fun i e H c' => ∃ (x : Nat) (s : List UInt8),e 0 = .int .i64 (-(m : Int)) ∧ e 4 = .int .i64 (-(x : Int)) ∧ e 3 = .str s ∧ s.length = i ∧ x * 10 ^ i ≤ m ∧ (if x = 0 then s else Lib.decDigits x ++ s) = Lib.decDigits m ∧ H = []) ?_ ?_
  · exact ⟨m,[],rfl,rfl,rfl,rfl,by simp,by simp; omega,rfl⟩
  intro i e H c hi ⟨x,s,e0,e4,e3,hl,hx,hd,hH⟩ N hN
  subst hH
  by_cases h : x = 0
  · subst h
    simp at hd
    subst hd
    have hm1 : 1 + (Lib.decDigits m).length ≤ mx := by have := decDigits_len (u := m) (by omega); unfold mx; omega
    simp [e0,e3,e4,hlt,hpos,hm1]
    exact fin_plain ⟨rfl,rfl⟩
  rw [if_neg h] at hd
  have hi' : i < 19 := by
    rcases Nat.lt_or_ge i 19 with h1 | h1
    · exact h1
    · have : i = 19 := by omega
      subst this
      omega
  have hx' : ¬ (x : Int) = 0 := by omega
  have hxn : x ≤ m := Nat.le_trans (Nat.le_mul_of_pos_right x (Nat.pos_of_ne_zero (by simp))) hx
  have h10 : (-(x : Int)).tmod 10 = -((x % 10 : Nat) : Int) := by rw [Int.neg_tmod,Int.tmod_eq_emod_of_nonneg (by omega)]; omega
  have hq : (-(x : Int)).tdiv 10 = -((x / 10 : Nat) : Int) := by rw [Int.neg_tdiv,Int.tdiv_eq_ediv_of_nonneg (by omega)]; omega
  have h48 : (48 : Int) + ((x % 10 : Nat) : Int) = ((48 + x % 10 : Nat) : Int) := by omega
  have hw : IntKind.u8.wrap (IntKind.i64.wrap (48 + ((x % 10 : Nat) : Int))) = ((UInt8.ofNat (48 + x % 10)).toNat : Int) := by rw [h48]; exact wrap_u8 (by omega)
  have hm1 : 1 + s.length ≤ mx := by unfold mx; omega
  have hq' : IntKind.i64.wrap (-((x / 10 : Nat) : Int)) = -((x / 10 : Nat) : Int) := wrap64 (by omega) (by omega)
  have hnn : IntKind.i64.wrap (-(-((x % 10 : Nat) : Int))) = ((x % 10 : Nat) : Int) := by rw [wrap64 (by omega) (by omega)]; omega
  have hnn' : IntKind.i64.wrap ((x % 10 : Nat) : Int) = ((x % 10 : Nat) : Int) := by rw [wrap64 (by omega) (by omega)]
  by_cases hz : x % 10 = 0
  · rw [hz] at h10 hw
    simp at h10 hw
    simp [e0,e3,e4,h,h10]
    refine toStrW_ref (l := [UInt8.ofNat (48 + x % 10)]) (by rw [hz]; rfl) rfl (by simp [mx]) ?_
    simp [e0,e3,e4,hm1,hq,hq',-Int.natCast_ediv]
    refine hN _ _ [] _ hi' (by simp) ⟨x / 10,UInt8.ofNat (48 + x % 10) :: s,by simp [upd,e0],by simp [upd],by simp [upd],by simp [hl],?_,?_,rfl⟩
    · refine Nat.le_trans ?_ hx
      rw [Nat.pow_succ,Nat.mul_comm (10 ^ i) 10,← Nat.mul_assoc]
      exact Nat.mul_le_mul_right _ (Nat.div_mul_le_self x 10)
    · have hdx : Lib.decDigits x = if h : x < 10 then [UInt8.ofNat (48 + x)] else Lib.decDigits (x / 10) ++ [UInt8.ofNat (48 + x % 10)] := by rw [Lib.decDigits]
      rw [← hd,hdx]
      by_cases h9 : x < 10
      · omega
      · rw [dif_neg h9,if_neg (by omega)]; simp
  have hneg : -((x % 10 : Nat) : Int) < 0 := by omega
  have hposx : (0 : Int) < ((x % 10 : Nat) : Int) := by omega
  have hposn : 0 < x % 10 := by omega
  simp [e0,e3,e4,h,h10,hneg,hnn,hnn',hposn,-Int.natCast_emod]
  refine toStrW_ref (l := [UInt8.ofNat (48 + x % 10)]) (by rw [hw]; rfl) rfl (by simp [mx]) ?_
  simp [e0,e3,e4,hm1,hq,hq',-Int.natCast_ediv]
  refine hN _ _ [] _ hi' (by simp) ⟨x / 10,UInt8.ofNat (48 + x % 10) :: s,by simp [upd,e0],by simp [upd],by simp [upd],by simp [hl],?_,?_,rfl⟩
  · refine Nat.le_trans ?_ hx
    rw [Nat.pow_succ,Nat.mul_comm (10 ^ i) 10,← Nat.mul_assoc]
    exact Nat.mul_le_mul_right _ (Nat.div_mul_le_self x 10)
  · have hdx : Lib.decDigits x = if h : x < 10 then [UInt8.ofNat (48 + x)] else Lib.decDigits (x / 10) ++ [UInt8.ofNat (48 + x % 10)] := by rw [Lib.decDigits]
    rw [← hd,hdx]
    by_cases h9 : x < 10
    · have : x / 10 = 0 := by omega
      rw [dif_pos h9,if_pos this,Nat.mod_eq_of_lt h9]; rfl
    · rw [dif_neg h9,if_neg (by omega)]; simp
theorem specFmtI_fn {n : Int} (h0 : -1000000000000000000 ≤ n) (h1 : n ≤ 1000000000000000000) : Fnc Tryz.prog 179 [.int .i64 n] (.str (Lib.itoa n)) := by
  by_cases h : n < 0
  · obtain ⟨m,rfl⟩ : ∃ m : Nat,n = -(m : Int) := ⟨n.natAbs,by omega⟩
    rw [Lib.itoa_neg m (by omega)]
    exact specFmtN_fn (by omega) (by omega)
  · obtain ⟨m,rfl⟩ : ∃ m : Nat,n = (m : Int) := ⟨n.toNat,by omega⟩
    rw [Lib.itoa_nonneg]
    exact specFmt_fn (by omega)
theorem implFmtI_fn {n : Int} (h0 : -1000000000000000000 ≤ n) (h1 : n ≤ 1000000000000000000) : Fnc Tryz.prog 192 [.int .i64 n] (.str (Lib.itoa n)) := by
  refine fn_of c192 (by simp [F192]) fun c => ?_
  unfold F192
  simp
  refine call_fn0 (itoa_all (by omega) (by omega)) .str fun _ _ => ?_
  simp
  exact fin_plain ⟨rfl,rfl⟩
set_option maxRecDepth 100000
theorem TValue.ind2 {p : TValue → Prop} (h : ∀ v : TValue,(∀ e,e ∈ v.Items.list → p e.2) → p v) : ∀ v,p v := TValue.ind fun k n s x I ih => h _ ih
theorem impl_isKey {k : TKey} (hk : k.Str.length ≤ 1048576) : Fnc Tryz.prog 190 [.agg k.enc] (.bool (isKey k)) := by
  refine fn_of c190 (by simp [F190]) fun c => ?_
  unfold F190
  cases hT : k.Text
  · by_cases h1 : k.Str = []
    · simp [hT,h1]
      refine call_fn0 (inRange_fn _ _ _) .bool fun _ _ => ?_
      simp
      exact fin_plain ⟨by simp [isKey,hT,h1],rfl⟩
    · simp [hT,h1]
      exact fin_plain ⟨by simp [isKey,hT,h1],rfl⟩
  · simp [hT]
    refine call_fn0 (implSigned_fn hk) (free_ib _ _) fun _ _ => ?_
    by_cases h1 : k.Num = 0
    · by_cases h2 : k.Str.length ≤ 400
      · have h2' : (k.Str.length : Int) ≤ 400 := by omega
        simp [h1,h2']
        exact fin_plain ⟨by simp [isKey,hT,h1,h2],rfl⟩
      · have h2' : ¬ (k.Str.length : Int) ≤ 400 := by omega
        simp [h1,h2']
        exact fin_plain ⟨by simp [isKey,hT,h1,h2],rfl⟩
    · simp [h1]
      exact fin_plain ⟨by simp [isKey,hT,h1],rfl⟩
theorem spec_isKey {k : TKey} (hk : k.Str.length ≤ 1048576) : Fnc Tryz.prog 176 [.agg k.enc] (.bool (isKey k)) := by
  refine fn_of c176 (by simp [F176]) fun c => ?_
  unfold F176
  cases hT : k.Text
  · simp [hT]
    refine call_fn0 (l1In_fn _ _ _) .bool fun _ _ => ?_
    cases h2 : inR k.Num (-1000000000) 1000000000
    · simp
      exact fin_plain ⟨by simp [isKey,hT,h2],rfl⟩
    · simp
      exact fin_plain ⟨by simp [isKey,hT,h2],rfl⟩
  · simp [hT]
    refine call_fn0 (specSigned_fn (by unfold mx; omega)) (free_ib _ _) fun _ _ => ?_
    by_cases h1 : k.Num = 0
    · by_cases h2 : k.Str.length ≤ 400
      · have h2' : (k.Str.length : Int) ≤ 400 := by omega
        simp [h1,h2']
        exact fin_plain ⟨by simp [isKey,hT,h1,h2],rfl⟩
      · have h2' : ¬ (k.Str.length : Int) ≤ 400 := by omega
        simp [h1,h2']
        exact fin_plain ⟨by simp [isKey,hT,h1,h2],rfl⟩
    · simp [h1]
      exact fin_plain ⟨by simp [isKey,hT,h1],rfl⟩
theorem items_len (v : TValue) : v.Items.list.length ≤ v.sz := by rw [TValue.sz_eq]; omega
theorem items_sz {v : TValue} {e : TKey × TValue} (he : e ∈ v.Items.list) : e.1.Str.length + e.2.sz ≤ v.sz := by
  have := szL_mem (sz := szE) he
  have h2 : szE e = e.1.Str.length + e.2.sz := rfl
  rw [TValue.sz_eq v]; omega
theorem wt_arr {v : TValue} (h : v.Kind = 4) : v.wt = 1 + szL wtE v.Items.list := by rw [TValue.wt_eq,if_pos h]
theorem wt_one {v : TValue} (h : v.Kind ≠ 4) : v.wt = 1 := by rw [TValue.wt_eq,if_neg h]
theorem impl_weight : ∀ v : TValue,v.sz ≤ 1099511627776 → Fnc Tryz.prog 153 [.agg v.enc] (.int .i64 v.wt) := by
  refine TValue.ind2 (p := fun v => v.sz ≤ 1099511627776 → Fnc Tryz.prog 153 [.agg v.enc] (.int .i64 v.wt)) fun v ih hz => ?_
  refine fn_of c153 (by simp [F153]) fun c => ?_
  unfold F153
  by_cases h4 : v.Kind = 4
  rotate_left
  · simp [h4]
    exact fin_plain ⟨by rw [wt_one h4]; rfl,rfl⟩
  have hwt := wt_arr h4
  have hwl := TValue.wt_le v
  have hil := items_len v
  simp [h4]
  refine loop_drop v.Items.list.length (fun i e H c' => e 3 = .int .i64 ((1 + szL wtE (v.Items.list.take i) : Nat) : Int) ∧ e 10 = v.Items.av 8 encE ∧ e 11 = .int .i64 v.Items.list.length ∧ e 12 = .int .i64 i ∧ H = [⟨false,c,5,[v.enc]⟩]) ⟨by simp [upd,szL],by simp [upd],by simp [upd],by simp [upd],rfl⟩ ?_
  intro i e H c' hi ⟨e3,e10,e11,e12,hH⟩ N hN
  subst hH
  by_cases h : i < v.Items.list.length
  · have hx : v.Items.list[i]? = some v.Items.list[i] := List.getElem?_eq_getElem h
    have hst := szL_step wtE v.Items.list h
    have hle := szL_le wtE v.Items.list (i + 1)
    have hxm : v.Items.list[i] ∈ v.Items.list := List.getElem_mem h
    generalize v.Items.list[i] = x at hx hst hxm
    have hwx : wtE x = x.2.wt := rfl
    have hw : IntKind.i64.wrap (((1 + szL wtE (v.Items.list.take i) : Nat) : Int) + (x.2.wt : Int)) = ((1 + szL wtE (v.Items.list.take (i + 1)) : Nat) : Int) := by rw [wrap64 (by omega) (by omega)]; omega
    simp [e3,e10,e11,e12,h,getW_of hx,-Int.natCast_add]
    refine call_fn0 (ih x hxm (by have := items_sz hxm; omega)) .int fun _ _ => ?_
    simp [e3,e10,e11,e12,h,hw,-Int.natCast_add]
    exact hN _ _ [_] _ h (by simp) ⟨by simp [upd],by simp [upd,e10],by simp [upd,e11],by simp [upd]; exact step64 (by unfold mx; omega) h,rfl⟩
  · have hie : i = v.Items.list.length := by omega
    subst hie
    simp [e3,e10,e11,e12,-Int.natCast_add]
    exact fin_plain ⟨by rw [hwt],rfl⟩
theorem spec_weigh : ∀ v : TValue,v.sz ≤ 1099511627776 → ∀ most : Nat,most ≤ 200 → Tr Tryz.prog 137 [.agg v.enc,.int .i64 most] fun _ r => ∃ n : Nat,r = .int .i64 n ∧ n ≤ v.wt ∧ (v.wt ≤ most → n = v.wt) ∧ (most < v.wt → most < n) := by
  refine TValue.ind2 (p := fun v => v.sz ≤ 1099511627776 → ∀ most : Nat,most ≤ 200 → Tr Tryz.prog 137 [.agg v.enc,.int .i64 most] fun _ r => ∃ n : Nat,r = .int .i64 n ∧ n ≤ v.wt ∧ (v.wt ≤ most → n = v.wt) ∧ (most < v.wt → most < n)) fun v ih hz most hm => ?_
  intro c
  refine con_of c137 (by simp [F137]) ?_
  unfold F137
  by_cases h4 : v.Kind = 4
  rotate_left
  · simp
    refine loop_drop 0 (fun i e H c' => e 2 = .ptr 0 c 5 0 0 ∧ e 5 = .int .i64 1 ∧ H = [⟨false,c,5,[v.enc]⟩]) ⟨by simp [upd],by simp [upd],rfl⟩ ?_
    intro i e H c' hi ⟨e2,e5,hH⟩ N hN
    subst hH
    simp [e2,e5,h4]
    exact fin_plain ⟨rfl,⟨1,rfl,by rw [wt_one h4]; exact ⟨Nat.le_refl _,fun _ => rfl,fun h => h⟩⟩,by simp⟩
  have hwt := wt_arr h4
  have hwl := TValue.wt_le v
  have hil := items_len v
  simp
  refine loop_drop v.Items.list.length (fun i e H c' => ∃ n : Nat,e 1 = .int .i64 most ∧ e 2 = .ptr 0 c 5 0 0 ∧ e 5 = .int .i64 n ∧ e 6 = .int .i64 i ∧ n ≤ 1 + szL wtE (v.Items.list.take i) ∧ (1 + szL wtE (v.Items.list.take i) ≤ most → n = 1 + szL wtE (v.Items.list.take i)) ∧ (most < 1 + szL wtE (v.Items.list.take i) → most < n) ∧ H = [⟨false,c,5,[v.enc]⟩]) ⟨1,by simp [upd],by simp [upd],by simp [upd],by simp [upd],by simp [szL],by simp [szL],by simp [szL],rfl⟩ ?_
  intro i e H c' hi ⟨n,e1,e2,e5,e6,hn,hn1,hn2,hH⟩ N hN
  subst hH
  have hle0 := szL_le wtE v.Items.list i
  by_cases h : i < v.Items.list.length
  · have hx : v.Items.list[i]? = some v.Items.list[i] := List.getElem?_eq_getElem h
    have hst := szL_step wtE v.Items.list h
    have hle := szL_le wtE v.Items.list (i + 1)
    have hxm : v.Items.list[i] ∈ v.Items.list := List.getElem_mem h
    generalize v.Items.list[i] = x at hx hst hxm
    have hwx : wtE x = x.2.wt := rfl
    by_cases hle2 : n ≤ most
    · have hle2' : (n : Int) ≤ (most : Int) := by omega
      have hw1 : IntKind.i64.wrap ((most : Int) - (n : Int)) = ((most - n : Nat) : Int) := by rw [wrap64 (by omega) (by omega)]; omega
      simp [e1,e2,e5,e6,h4,h,hle2,getW_of hx,hw1]
      refine call_tree0 (ih x hxm (by have := items_sz hxm; omega) (most - n) (by omega)) fun r c2 _ ⟨m,hr,m1,m2,m3⟩ _ => ?_
      subst hr
      have hw : IntKind.i64.wrap ((n : Int) + (m : Int)) = ((n + m : Nat) : Int) := by rw [wrap64 (by omega) (by omega)]; omega
      simp [e1,e2,e5,e6,hw,-Int.natCast_add]
      exact hN _ _ [_] _ h (by simp) ⟨n + m,by simp [upd,e1],by simp [upd,e2],by simp [upd],by simp [upd]; exact step64 (by unfold mx; omega) h,by omega,by omega,by omega,rfl⟩
    · have hle2' : ¬ (n : Int) ≤ (most : Int) := by omega
      simp [e1,e2,e5,e6,h4,h,hle2]
      exact fin_plain ⟨rfl,⟨n,rfl,by omega,by omega,by omega⟩,by simp⟩
  · have hie : i = v.Items.list.length := by omega
    subst hie
    rw [List.take_length] at hn hn1 hn2
    simp [e1,e2,e5,e6,h4]
    exact fin_plain ⟨rfl,⟨n,rfl,by omega,by omega,by omega⟩,by simp⟩
def seenK (l : List TKey) : List (List AV) := l.map fun k => [.agg k.enc,.bool true]
theorem keyEq_k (a b : TKey) : keyEq (.agg a.enc) (.agg b.enc) = some (decide (a = b)) := by
  obtain ⟨a1,a2,a3⟩ := a
  obtain ⟨b1,b2,b3⟩ := b
  simp only [TKey.enc,keyEq,if_true,dec_beq,TKey.mk.injEq]
  congr 1
  by_cases h1 : a1 = b1 <;> by_cases h2 : a2 = b2 <;> by_cases h3 : a3 = b3 <;> simp [h1,h2,h3]
theorem mfK_no {k : TKey} : ∀ (l : List TKey) (i : Nat),k ∉ l → mfind (.agg k.enc) (seenK l) i = some none
  | [],_,_ => rfl
  | p :: l,i,h => by
    simp only [List.mem_cons,not_or] at h
    simp only [seenK,List.map_cons,mfind,keyEq_k,h.1,decide_false]
    exact mfK_no l (i + 1) h.2
theorem mfK_yes {k : TKey} : ∀ (l : List TKey) (i : Nat),k ∈ l → ∃ j,mfind (.agg k.enc) (seenK l) i = some (some (j,.bool true))
  | [],_,h => by simp at h
  | p :: l,i,h => by
    by_cases hk : k = p
    · exact ⟨i,by simp only [seenK,List.map_cons,mfind,keyEq_k,hk,decide_true]⟩
    · simp only [List.mem_cons] at h
      obtain ⟨j,h1⟩ := mfK_yes l (i + 1) (h.resolve_left hk)
      exact ⟨j,by simp only [seenK,List.map_cons,mfind,keyEq_k,hk,decide_false]; exact h1⟩
theorem seenK_len (l : List TKey) : (seenK l).length = l.length := by simp [seenK]
theorem seenK_snoc (l : List TKey) (k : TKey) : seenK l ++ [[.agg k.enc,.bool true]] = seenK (l ++ [k]) := by simp [seenK]
theorem gd_scalar {v : TValue} (h4 : v.Kind ≠ 4) (hs : v.Kind ≠ 3 → v.Str = []) (hx : v.Next = 0 ∧ v.Items.list = []) : v.gd ↔ 0 ≤ v.Kind ∧ v.Kind ≤ 8 ∧ v.Kind ≠ 5 ∧ (v.Kind = 0 → v.Num = 0) ∧ (v.Kind = 1 → v.Num = 0 ∨ v.Num = 1) ∧ (v.Kind = 2 → inR v.Num (-1000000000) 1000000000 = true) ∧ (v.Kind = 3 → v.Num = 0 ∧ v.Str.length ≤ 400) ∧ (v.Kind = 6 ∨ v.Kind = 7 ∨ v.Kind = 8 → inR v.Num 0 255 = true) := by
  rw [gd_iff]
  exact ⟨fun h => ⟨h.k0,h.k8,h.k5,h.n0,h.n1,h.n2,h.n3,h.n6⟩,fun ⟨a,b,c,d,e,f,g,h⟩ => ⟨a,b,c,hs,fun _ => hx,d,e,f,g,h,fun k => absurd k h4,fun k => absurd k h4,fun k => absurd k h4,fun k => absurd k h4,fun k => absurd k h4⟩⟩
theorem gd_arr {v : TValue} (h4 : v.Kind = 4) (hs : v.Str = []) : v.gd ↔ v.Num = 0 ∧ inR v.Next 0 1000000001 = true ∧ (v.Items.list.map Prod.fst).Nodup ∧ (∀ e,e ∈ v.Items.list → isKey e.1 = true ∧ (e.1.Text = false → e.1.Num < v.Next) ∧ e.2.gd) := by
  rw [gd_iff]
  constructor
  · intro h
    exact ⟨h.a0 h4,h.a1 h4,h.a2 h4,fun e he => ⟨(h.a3 h4 e he).1,(h.a3 h4 e he).2,h.a4 h4 e he⟩⟩
  · rintro ⟨a,b,c,d⟩
    exact ⟨by omega,by omega,by omega,fun _ => hs,fun k => absurd h4 k,by omega,by omega,by omega,by omega,by omega,fun _ => a,fun _ => b,fun _ => c,fun _ e he => ⟨(d e he).1,(d e he).2.1⟩,fun _ e he => (d e he).2.2⟩
def firstAt {α : Type} [DecidableEq α] (s : α) : List α → Nat → Int
  | [],_ => -1
  | x :: l,i => if x = s then i else firstAt s l (i + 1)
theorem firstAt_go {α : Type} [DecidableEq α] {s : α} {l : List α} {i : Nat} {x : α} (hx : l[i]? = some x) : firstAt s (l.drop i) i = if x = s then (i : Int) else firstAt s (l.drop (i + 1)) (i + 1) := by
  obtain ⟨hi,rfl⟩ := List.getElem?_eq_some_iff.1 hx
  rw [List.drop_eq_getElem_cons hi]; rfl
theorem firstAt_first {α : Type} [DecidableEq α] {s : α} : ∀ (l : List α) (i k : Nat),l[k]? = some s → s ∉ l.take k → firstAt s l i = ((i + k : Nat) : Int)
  | [],_,_,h,_ => by simp at h
  | x :: l,i,0,h,_ => by simp at h; simp [firstAt,h]
  | x :: l,i,k + 1,h,hn => by
    simp at h hn
    rw [firstAt,if_neg (fun e => hn.1 e.symm),firstAt_first l (i + 1) k h hn.2]
    congr 1; omega
theorem firstAt_less {α : Type} [DecidableEq α] {s : α} : ∀ (l : List α) (i k : Nat),s ∈ l.take k → firstAt s l i < ((i + k : Nat) : Int)
  | [],_,_,h => by simp at h
  | x :: l,i,0,h => by simp at h
  | x :: l,i,k + 1,h => by
    rw [firstAt]
    split
    · omega
    · rename_i hne
      simp only [List.take_succ_cons,List.mem_cons] at h
      have := firstAt_less l (i + 1) k (h.resolve_left fun e => hne e.symm)
      omega
theorem eqKeyC (a b : TKey) : eqCells a.enc b.enc = some (decide (a = b)) := by
  obtain ⟨a1,a2,a3⟩ := a
  obtain ⟨b1,b2,b3⟩ := b
  simp only [TKey.enc,eqCells,keyEq,TKey.mk.injEq]
  cases h1 : (a1 == b1) <;> cases h2 : (a2 == b2) <;> cases h3 : (a3 == b3) <;> simp only [beq_iff_eq,beq_eq_false_iff_ne] at h1 h2 h3 <;> simp [h1,h2,h3]
@[simp high] theorem beqK (neg : Bool) (a b : TKey) (K : AV → Prop) : beqW' neg [2,0,1] (.agg a.enc) (.agg b.enc) K = K (.bool (decide (a = b) != neg)) := by
  unfold beqW'
  have e : fitsK [2,0,1] a.enc = true := by simp [TKey.enc,fitsK]
  simp only [e,eqKeyC,true_and]
theorem l5Find_fn {v : TValue} (h4 : v.Kind = 4) (hn : v.Items.list.length ≤ 1048576) (k : TKey) : Fnc Tryz.prog 177 [.agg v.enc,.agg k.enc] (.int .i64 (firstAt k (v.Items.list.map Prod.fst) 0)) := by
  refine fn_of c177 (by simp [F177]) fun c => ?_
  unfold F177
  simp
  refine loop_drop v.Items.list.length (fun i e H c' => e 2 = .ptr 0 c 5 0 0 ∧ e 3 = .ptr 1 (c + 1) 3 0 0 ∧ e 5 = .int .i64 i ∧ firstAt k (v.Items.list.map Prod.fst) 0 = firstAt k ((v.Items.list.map Prod.fst).drop i) i ∧ H = [⟨false,c,5,[v.enc]⟩,⟨false,c + 1,3,[k.enc]⟩]) ⟨by simp [upd],by simp [upd],by simp [upd],by simp,rfl⟩ ?_
  intro i e H c' hi ⟨e2,e3,e5,hd,hH⟩ N hN
  subst hH
  by_cases h : i < v.Items.list.length
  · obtain ⟨x,hx⟩ : ∃ x,v.Items.list[i]? = some x := ⟨_,List.getElem?_eq_getElem h⟩
    have hkx : (v.Items.list.map Prod.fst)[i]? = some x.1 := by simp [hx]
    rw [firstAt_go hkx] at hd
    by_cases hxs : x.1 = k
    · simp [e2,e3,e5,h4,h,getW_of hx,hxs,-beqW'_agg]
      rw [hd,if_pos hxs]
      exact fin_plain ⟨rfl,rfl⟩
    · simp [e2,e3,e5,h4,h,getW_of hx,hxs,-beqW'_agg]
      rw [if_neg hxs] at hd
      exact hN _ _ _ _ h (List.Sublist.refl _) ⟨by simp [upd,e2],by simp [upd,e3],by simp [upd]; exact step64 (by unfold mx; omega) h,hd,rfl⟩
  · have hie : i = v.Items.list.length := by omega
    subst hie
    simp [e2,e3,e5,h4]
    rw [hd,List.drop_of_length_le (by simp)]
    exact fin_plain ⟨rfl,rfl⟩
set_option maxRecDepth 100000
set_option maxHeartbeats 4000000 in
theorem impl_wf0 (v : TValue) (h4 : ¬ (v.Kind = 4 ∧ v.Str = [])) : Fnc Tryz.prog 154 [.agg v.enc] (.bool (pdec v.gd)) := by
  refine fn_of c154 (by simp [F154]) fun c => ?_
  unfold F154
  by_cases hs : v.Kind ≠ 3 ∧ v.Str ≠ []
  · simp [hs.1,hs.2]
    exact fin_plain ⟨by rw [pdec_false fun h => hs.2 (((gd_iff v).1 h).s3 hs.1)],rfl⟩
  have hs3 : v.Kind ≠ 3 → v.Str = [] := fun h => Classical.byContradiction fun h2 => hs ⟨h,h2⟩
  by_cases hx : v.Kind ≠ 4 ∧ (v.Next ≠ 0 ∨ v.Items.list ≠ [])
  · have no : ¬ v.gd := fun h => by
      have := ((gd_iff v).1 h).x4 hx.1
      rcases hx.2 with h2 | h2
      · exact h2 this.1
      · exact h2 this.2
    by_cases h3 : v.Kind = 3
    · by_cases hn : v.Next = 0
      · have hl : 0 < v.Items.list.length := List.length_pos_iff.2 (hx.2.resolve_left (fun h => h hn))
        simp [h3,hn,hl]
        exact fin_plain ⟨by rw [pdec_false no],rfl⟩
      · simp [h3,hn]
        exact fin_plain ⟨by rw [pdec_false no],rfl⟩
    · by_cases hn : v.Next = 0
      · have hl : 0 < v.Items.list.length := List.length_pos_iff.2 (hx.2.resolve_left (fun h => h hn))
        simp [h3,hs3 h3,hx.1,hn,hl]
        exact fin_plain ⟨by rw [pdec_false no],rfl⟩
      · simp [h3,hs3 h3,hx.1,hn]
        exact fin_plain ⟨by rw [pdec_false no],rfl⟩
  have hx4 : v.Kind ≠ 4 → v.Next = 0 ∧ v.Items.list = [] := fun h => ⟨Classical.byContradiction fun h2 => hx ⟨h,.inl h2⟩,Classical.byContradiction fun h2 => hx ⟨h,.inr h2⟩⟩
  replace h4 : v.Kind ≠ 4 := fun h => h4 ⟨h,hs3 (by omega)⟩
  · obtain ⟨hn0,hi0⟩ := hx4 h4
    have sc := gd_scalar h4 hs3 ⟨hn0,hi0⟩
    by_cases h0 : v.Kind = 0
    · simp [h0,hs3 (by omega),hn0,hi0]
      exact fin_plain ⟨by rw [pdec_of (b := decide (v.Num = 0)) (by rw [sc,decide_eq_true_iff]; omega)],rfl⟩
    by_cases h1 : v.Kind = 1
    · by_cases n0 : v.Num = 0
      · simp [h1,hs3 (by omega),hn0,hi0,n0]
        exact fin_plain ⟨by rw [pdec_true (sc.2 (by omega))],rfl⟩
      · simp [h1,hs3 (by omega),hn0,hi0,n0]
        exact fin_plain ⟨by rw [pdec_of (b := decide (v.Num = 1)) (by rw [sc,decide_eq_true_iff]; omega)],rfl⟩
    by_cases h2 : v.Kind = 2
    · simp [h2,hs3 (by omega),hn0,hi0]
      refine call_fn0 (inRange_fn _ _ _) .bool fun _ _ => ?_
      simp
      exact fin_plain ⟨by rw [pdec_of (b := inR v.Num (-1000000000) 1000000000) (by rw [sc]; exact ⟨fun h => ⟨by omega,by omega,by omega,by omega,by omega,fun _ => h,by omega,by omega⟩,fun h => h.2.2.2.2.2.1 h2⟩)],rfl⟩
    by_cases h3 : v.Kind = 3
    · by_cases n0 : v.Num = 0
      · simp [h3,hn0,hi0,n0]
        exact fin_plain ⟨by rw [pdec_of (b := decide (v.Str.length ≤ 400)) (by rw [sc,decide_eq_true_iff]; omega)]; congr 1; exact decide_eq_decide.2 (by omega),rfl⟩
      · simp [h3,hn0,hi0,n0]
        exact fin_plain ⟨by rw [pdec_false fun h => n0 ((sc.1 h).2.2.2.2.2.2.1 h3).1],rfl⟩
    by_cases h6 : v.Kind = 6 ∨ v.Kind = 7 ∨ v.Kind = 8
    · have key : pdec v.gd = inR v.Num 0 255 := pdec_of (by rw [sc]; exact ⟨fun h => ⟨by omega,by omega,by omega,by omega,by omega,by omega,by omega,fun _ => h⟩,fun h => h.2.2.2.2.2.2.2 h6⟩)
      rcases h6 with h6 | h6 | h6 <;>
      · simp [h6,hs3 (by omega),hn0,hi0]
        refine call_fn0 (inRange_fn _ _ _) .bool fun _ _ => ?_
        simp
        exact fin_plain ⟨by rw [key],rfl⟩
    · have h6' : ¬ v.Kind = 6 := by omega
      have h7' : ¬ v.Kind = 7 := by omega
      have h8' : ¬ v.Kind = 8 := by omega
      simp [h0,h1,h2,h3,h4,h6',h7',h8',hs3 (by omega),hn0,hi0]
      exact fin_plain ⟨by rw [pdec_false fun h => by have := sc.1 h; omega],rfl⟩
set_option maxRecDepth 100000
set_option maxHeartbeats 4000000 in
theorem impl_wf : ∀ v : TValue,v.sz ≤ 1048576 → Fnc Tryz.prog 154 [.agg v.enc] (.bool (pdec v.gd)) := by
  refine TValue.ind2 (p := fun v => v.sz ≤ 1048576 → Fnc Tryz.prog 154 [.agg v.enc] (.bool (pdec v.gd))) fun v ih hz => ?_
  by_cases h4s : v.Kind = 4 ∧ v.Str = []
  rotate_left
  · exact impl_wf0 v h4s
  obtain ⟨h4,hse⟩ := h4s
  refine fn_of c154 (by simp [F154]) fun c => ?_
  unfold F154
  have hil := items_len v
  have ar := gd_arr h4 hse
  by_cases n0 : v.Num = 0
  rotate_left
  · simp [h4,hse,n0]
    exact fin_plain ⟨by rw [pdec_false fun h => n0 (ar.1 h).1],rfl⟩
  simp [h4,hse,n0]
  refine call_fn0 (inRange_fn _ _ _) .bool fun c1 _ => ?_
  cases hR : inR v.Next 0 1000000001
  · simp
    exact fin_plain ⟨by rw [pdec_false fun h => by have := (ar.1 h).2.1; rw [hR] at this; cases this],rfl⟩
  simp [h4]
  refine loop_drop v.Items.list.length (fun i e H c' => ∃ tM,e 1 = .ptr 0 c 5 0 0 ∧ e 3 = .mref 1 tM ∧ e 83 = v.Items.av 8 encE ∧ e 84 = .int .i64 v.Items.list.length ∧ e 85 = .int .i64 i ∧ ((v.Items.list.map Prod.fst).take i).Nodup ∧ (∀ x,x ∈ v.Items.list.take i → isKey x.1 = true ∧ (x.1.Text = false → x.1.Num < v.Next) ∧ x.2.gd) ∧ H = [⟨false,c,5,[v.enc]⟩,⟨true,tM,0,seenK ((v.Items.list.map Prod.fst).take i)⟩]) ⟨c1,by simp [upd],by simp [upd],by simp [upd],by simp [upd],by simp [upd],by simp,by simp,by simp [seenK]⟩ ?_
  intro i e H c' hi ⟨tM,e1,e3,e83,e84,e85,hnd,hall,hH⟩ N hN
  subst hH
  by_cases h : i < v.Items.list.length
  · have hx : v.Items.list[i]? = some v.Items.list[i] := List.getElem?_eq_getElem h
    have htk : v.Items.list.take (i + 1) = v.Items.list.take i ++ [v.Items.list[i]] := List.take_succ_eq_append_getElem h
    have hxm : v.Items.list[i] ∈ v.Items.list := List.getElem_mem h
    generalize v.Items.list[i] = x at hx htk hxm
    have hsx := items_sz hxm
    have hkx : (v.Items.list.map Prod.fst)[i]? = some x.1 := by simp [hx]
    have hkt : (v.Items.list.map Prod.fst).take (i + 1) = (v.Items.list.map Prod.fst).take i ++ [x.1] := by obtain ⟨h1,h2⟩ := List.getElem?_eq_some_iff.1 hkx; rw [List.take_succ_eq_append_getElem h1,h2]
    simp [e1,e3,e83,e84,e85,h,getW_of hx]
    refine call_fn0 (impl_isKey (by omega)) .bool fun _ _ => ?_
    cases hk : isKey x.1
    · simp
      exact fin_plain ⟨by rw [pdec_false fun hh => by have := ((ar.1 hh).2.2.2 x hxm).1; rw [hk] at this; cases this],rfl⟩
    simp [e1,e3]
    by_cases hm : x.1 ∈ (v.Items.list.map Prod.fst).take i
    · obtain ⟨j,hj⟩ := mfK_yes _ 0 hm
      refine lookup_yes rfl rfl hj ?_
      simp
      exact fin_plain ⟨by rw [pdec_false fun hh => by exact nodup_at hkx hm (ar.1 hh).2.2.1],rfl⟩
    refine lookup_no rfl rfl (mfK_no _ 0 hm) ?_
    have rest : (x.1.Text = false → x.1.Num < v.Next) → ∀ (K : AV → List AObj → Nat → Prop) (H : List AObj) (c : Nat),(x.2.gd → ∀ c',K (.bool true) H c') → (¬ x.2.gd → ∀ c',K (.bool false) H c') → CallW Tryz.prog 154 [.agg x.2.enc] H c K := fun hlt K H c k1 k2 => by
      refine call_fn0 (ih x hxm (by omega)) .bool fun c' _ => ?_
      by_cases hg : x.2.gd
      · rw [pdec_true hg]; exact k1 hg c'
      · rw [pdec_false hg]; exact k2 hg c'
    have last : (x.1.Text = false → x.1.Num < v.Next) → x.2.gd → ∀ e c',e 1 = .ptr 0 c 5 0 0 → e 3 = .mref 1 tM → e 83 = v.Items.av 8 encE → e 84 = .int .i64 v.Items.list.length → e 85 = .int .i64 ((i : Int) + 1) → ∀ ob,N e [⟨false,c,5,[v.enc]⟩,⟨true,tM,0,seenK ((v.Items.list.map Prod.fst).take i) ++ [[.agg x.1.enc,.bool true]]⟩,ob] c' := fun hlt hg e c' e1 e3 e83 e84 e85 ob => by
      refine hN _ _ [⟨false,c,5,[v.enc]⟩,⟨true,tM,0,seenK ((v.Items.list.map Prod.fst).take i) ++ [[.agg x.1.enc,.bool true]]⟩] _ h (by simp) ⟨tM,e1,e3,e83,e84,e85,?_,?_,?_⟩
      · rw [hkt]; exact nodup_snoc hnd hm
      · intro y hy
        rw [htk,List.mem_append,List.mem_singleton] at hy
        rcases hy with hy | rfl
        · exact hall y hy
        · exact ⟨hk,hlt,hg⟩
      · rw [seenK_snoc,hkt]
    have hml : (seenK ((v.Items.list.map Prod.fst).take i)).length < mx := by rw [seenK_len]; simp; unfold mx; omega
    by_cases hlt : x.1.Text = false → x.1.Num < v.Next
    rotate_left
    · obtain ⟨ht,hlt2⟩ : x.1.Text = false ∧ ¬ x.1.Num < v.Next := ⟨Classical.byContradiction fun h => hlt fun h2 => absurd h2 h,fun h => hlt fun _ => h⟩
      have hle : v.Next ≤ x.1.Num := by omega
      simp [e1,e3,ht,hle]
      exact fin_plain ⟨by rw [pdec_false fun hh => hlt ((ar.1 hh).2.2.2 x hxm).2.1],rfl⟩
    cases ht : x.1.Text
    · have hle : ¬ v.Next ≤ x.1.Num := by have := hlt ht; omega
      simp [e1,e3,ht,hle]
      refine rest hlt _ _ _ (fun hg c' => ?_) fun hg c' => ?_
      · simp [e1,e3]
        refine mupd_no rfl rfl (mfK_no _ 0 hm) hml ?_
        simp [e1,e3,e83,e84,e85]
        exact last hlt hg _ _ (by simp [upd,e1]) (by simp [upd,e3]) (by simp [upd,e83]) (by simp [upd,e84]) (by simp [upd]; exact step64 (by unfold mx; omega) h) _
      · simp
        exact fin_plain ⟨by rw [pdec_false fun hh => hg ((ar.1 hh).2.2.2 x hxm).2.2],rfl⟩
    · simp [e1,e3,ht]
      refine rest hlt _ _ _ (fun hg c' => ?_) fun hg c' => ?_
      · simp [e1,e3]
        refine mupd_no rfl rfl (mfK_no _ 0 hm) hml ?_
        simp [e1,e3,e83,e84,e85]
        exact last hlt hg _ _ (by simp [upd,e1]) (by simp [upd,e3]) (by simp [upd,e83]) (by simp [upd,e84]) (by simp [upd]; exact step64 (by unfold mx; omega) h) _
      · simp
        exact fin_plain ⟨by rw [pdec_false fun hh => hg ((ar.1 hh).2.2.2 x hxm).2.2],rfl⟩
  · have hie : i = v.Items.list.length := by omega
    subst hie
    rw [List.take_of_length_le (by simp)] at hnd
    rw [List.take_length] at hall
    simp [e1,e3,e83,e84,e85]
    exact fin_plain ⟨by rw [pdec_true (ar.2 ⟨n0,hR,hnd,hall⟩)],rfl⟩
set_option maxRecDepth 100000
set_option maxHeartbeats 4000000 in
theorem spec_wf0 (v : TValue) (h4 : ¬ (v.Kind = 4 ∧ v.Str = [])) : Fnc Tryz.prog 138 [.agg v.enc] (.bool (pdec v.gd)) := by
  refine fn_of c138 (by simp [F138]) fun c => ?_
  unfold F138
  by_cases hs : v.Kind ≠ 3 ∧ v.Str ≠ []
  · simp [hs.1,hs.2]
    exact fin_plain ⟨by rw [pdec_false fun h => hs.2 (((gd_iff v).1 h).s3 hs.1)],rfl⟩
  have hs3 : v.Kind ≠ 3 → v.Str = [] := fun h => Classical.byContradiction fun h2 => hs ⟨h,h2⟩
  by_cases hx : v.Kind ≠ 4 ∧ (v.Next ≠ 0 ∨ v.Items.list ≠ [])
  · have no : ¬ v.gd := fun h => by
      have := ((gd_iff v).1 h).x4 hx.1
      rcases hx.2 with h2 | h2
      · exact h2 this.1
      · exact h2 this.2
    by_cases h3 : v.Kind = 3
    · by_cases hn : v.Next = 0
      · have hl : 0 < v.Items.list.length := List.length_pos_iff.2 (hx.2.resolve_left (fun h => h hn))
        simp [h3,hn,hl]
        exact fin_plain ⟨by rw [pdec_false no],rfl⟩
      · simp [h3,hn]
        exact fin_plain ⟨by rw [pdec_false no],rfl⟩
    · by_cases hn : v.Next = 0
      · have hl : 0 < v.Items.list.length := List.length_pos_iff.2 (hx.2.resolve_left (fun h => h hn))
        simp [h3,hs3 h3,hx.1,hn,hl]
        exact fin_plain ⟨by rw [pdec_false no],rfl⟩
      · simp [h3,hs3 h3,hx.1,hn]
        exact fin_plain ⟨by rw [pdec_false no],rfl⟩
  have hx4 : v.Kind ≠ 4 → v.Next = 0 ∧ v.Items.list = [] := fun h => ⟨Classical.byContradiction fun h2 => hx ⟨h,.inl h2⟩,Classical.byContradiction fun h2 => hx ⟨h,.inr h2⟩⟩
  replace h4 : v.Kind ≠ 4 := fun h => h4 ⟨h,hs3 (by omega)⟩
  · obtain ⟨hn0,hi0⟩ := hx4 h4
    have sc := gd_scalar h4 hs3 ⟨hn0,hi0⟩
    by_cases h0 : v.Kind = 0
    · simp [h0,hs3 (by omega),hn0,hi0]
      exact fin_plain ⟨by rw [pdec_of (b := decide (v.Num = 0)) (by rw [sc,decide_eq_true_iff]; omega)],rfl⟩
    by_cases h1 : v.Kind = 1
    · simp [h1,hs3 (by omega),hn0,hi0]
      refine call_fn0 (l1In_fn _ _ _) .bool fun _ _ => ?_
      simp
      exact fin_plain ⟨by rw [pdec_of (b := inR v.Num 0 1) (by rw [sc]; simp only [inR,Bool.and_eq_true,decide_eq_true_eq]; omega)],rfl⟩
    by_cases h2 : v.Kind = 2
    · simp [h2,hs3 (by omega),hn0,hi0]
      refine call_fn0 (l1In_fn _ _ _) .bool fun _ _ => ?_
      simp
      exact fin_plain ⟨by rw [pdec_of (b := inR v.Num (-1000000000) 1000000000) (by rw [sc]; exact ⟨fun h => ⟨by omega,by omega,by omega,by omega,by omega,fun _ => h,by omega,by omega⟩,fun h => h.2.2.2.2.2.1 h2⟩)],rfl⟩
    by_cases h3 : v.Kind = 3
    · by_cases n0 : v.Num = 0
      · simp [h3,hn0,hi0,n0]
        exact fin_plain ⟨by rw [pdec_of (b := decide (v.Str.length ≤ 400)) (by rw [sc,decide_eq_true_iff]; omega)]; congr 1; exact decide_eq_decide.2 (by omega),rfl⟩
      · simp [h3,hn0,hi0,n0]
        exact fin_plain ⟨by rw [pdec_false fun h => n0 ((sc.1 h).2.2.2.2.2.2.1 h3).1],rfl⟩
    by_cases h6 : v.Kind = 6 ∨ v.Kind = 7 ∨ v.Kind = 8
    · have key : pdec v.gd = inR v.Num 0 255 := pdec_of (by rw [sc]; exact ⟨fun h => ⟨by omega,by omega,by omega,by omega,by omega,by omega,by omega,fun _ => h⟩,fun h => h.2.2.2.2.2.2.2 h6⟩)
      rcases h6 with h6 | h6 | h6 <;>
      · simp [h6,hs3 (by omega),hn0,hi0]
        refine call_fn0 (l1In_fn _ _ _) .bool fun _ _ => ?_
        simp
        exact fin_plain ⟨by rw [key],rfl⟩
    · have h6' : ¬ v.Kind = 6 := by omega
      have h7' : ¬ v.Kind = 7 := by omega
      have h8' : ¬ v.Kind = 8 := by omega
      simp [h0,h1,h2,h3,h4,h6',h7',h8',hs3 (by omega),hn0,hi0]
      exact fin_plain ⟨by rw [pdec_false fun h => by have := sc.1 h; omega],rfl⟩
set_option maxRecDepth 100000
set_option maxHeartbeats 4000000 in
theorem spec_wf : ∀ v : TValue,v.sz ≤ 1048576 → Fnc Tryz.prog 138 [.agg v.enc] (.bool (pdec v.gd)) := by
  refine TValue.ind2 (p := fun v => v.sz ≤ 1048576 → Fnc Tryz.prog 138 [.agg v.enc] (.bool (pdec v.gd))) fun v ih hz => ?_
  by_cases h4s : v.Kind = 4 ∧ v.Str = []
  rotate_left
  · exact spec_wf0 v h4s
  obtain ⟨h4,hse⟩ := h4s
  refine fn_of c138 (by simp [F138]) fun c => ?_
  unfold F138
  have hil := items_len v
  have ar := gd_arr h4 hse
  by_cases n0 : v.Num = 0
  rotate_left
  · simp [h4,hse,n0]
    exact fin_plain ⟨by rw [pdec_false fun h => n0 (ar.1 h).1],rfl⟩
  simp [h4,hse,n0]
  refine call_fn0 (l1In_fn _ _ _) .bool fun _ _ => ?_
  cases hR : inR v.Next 0 1000000001
  · simp
    exact fin_plain ⟨by rw [pdec_false fun h => by have := (ar.1 h).2.1; rw [hR] at this; cases this],rfl⟩
  simp [h4]
  refine loop_drop v.Items.list.length (fun i e H c' => e 1 = .ptr 0 c 5 0 0 ∧ e 3 = .int .i64 i ∧ ((v.Items.list.map Prod.fst).take i).Nodup ∧ (∀ x,x ∈ v.Items.list.take i → isKey x.1 = true ∧ (x.1.Text = false → x.1.Num < v.Next) ∧ x.2.gd) ∧ H = [⟨false,c,5,[v.enc]⟩]) ⟨by simp [upd],by simp [upd],by simp,by simp,rfl⟩ ?_
  intro i e H c' hi ⟨e1,e3,hnd,hall,hH⟩ N hN
  subst hH
  by_cases h : i < v.Items.list.length
  · have hx : v.Items.list[i]? = some v.Items.list[i] := List.getElem?_eq_getElem h
    have htk : v.Items.list.take (i + 1) = v.Items.list.take i ++ [v.Items.list[i]] := List.take_succ_eq_append_getElem h
    have hxm : v.Items.list[i] ∈ v.Items.list := List.getElem_mem h
    generalize v.Items.list[i] = x at hx htk hxm
    have hsx := items_sz hxm
    have hkx : (v.Items.list.map Prod.fst)[i]? = some x.1 := by simp [hx]
    have hkt : (v.Items.list.map Prod.fst).take (i + 1) = (v.Items.list.map Prod.fst).take i ++ [x.1] := by obtain ⟨h1,h2⟩ := List.getElem?_eq_some_iff.1 hkx; rw [List.take_succ_eq_append_getElem h1,h2]
    simp [e1,e3,h,getW_of hx]
    refine call_fn0 (spec_isKey (by omega)) .bool fun _ _ => ?_
    cases hk : isKey x.1
    · simp
      exact fin_plain ⟨by rw [pdec_false fun hh => by have := ((ar.1 hh).2.2.2 x hxm).1; rw [hk] at this; cases this],rfl⟩
    simp [e1,e3]
    have hfi : firstAt x.1 (v.Items.list.map Prod.fst) 0 = if x.1 ∈ (v.Items.list.map Prod.fst).take i then firstAt x.1 (v.Items.list.map Prod.fst) 0 else (i : Int) := by
      split
      · rfl
      · rename_i hn; rw [firstAt_first _ 0 i hkx hn]; simp
    have rest : (x.1.Text = false → x.1.Num < v.Next) → ∀ (K : AV → List AObj → Nat → Prop) (H : List AObj) (c : Nat),(∀ n : Int,n ≠ i → ¬ v.gd → ∀ c',K (.int .i64 n) H c') → (x.1 ∉ (v.Items.list.map Prod.fst).take i → ∀ c',K (.int .i64 i) H c') → CallW Tryz.prog 177 [.agg v.enc,.agg x.1.enc] H c K := fun hlt K H c k1 k2 => by
      refine call_fn0 (l5Find_fn h4 (by omega) x.1) .int fun c' _ => ?_
      by_cases hm : x.1 ∈ (v.Items.list.map Prod.fst).take i
      · refine k1 _ ?_ (fun hh => ?_) c'
        · have hm2 := hm
          skip
          have := firstAt_less _ 0 i hm2
          omega
        · exact nodup_at hkx hm (ar.1 hh).2.2.1
      · rw [hfi,if_neg hm]
        exact k2 hm c'
    have rest2 : ∀ (K : AV → List AObj → Nat → Prop) (H : List AObj) (c : Nat),(x.2.gd → ∀ c',K (.bool true) H c') → (¬ x.2.gd → ∀ c',K (.bool false) H c') → CallW Tryz.prog 138 [.agg x.2.enc] H c K := fun K H c k1 k2 => by
      refine call_fn0 (ih x hxm (by omega)) .bool fun c' _ => ?_
      by_cases hg : x.2.gd
      · rw [pdec_true hg]; exact k1 hg c'
      · rw [pdec_false hg]; exact k2 hg c'
    by_cases hlt : x.1.Text = false → x.1.Num < v.Next
    rotate_left
    · obtain ⟨ht,hlt2⟩ : x.1.Text = false ∧ ¬ x.1.Num < v.Next := ⟨Classical.byContradiction fun h => hlt fun h2 => absurd h2 h,fun h => hlt fun _ => h⟩
      have hle : v.Next ≤ x.1.Num := by omega
      simp [e1,e3,ht,hle]
      exact fin_plain ⟨by rw [pdec_false fun hh => hlt ((ar.1 hh).2.2.2 x hxm).2.1],rfl⟩
    have fin1 : ∀ e c' ob,x.1 ∉ (v.Items.list.map Prod.fst).take i → x.2.gd → e 1 = .ptr 0 c 5 0 0 → e 3 = .int .i64 ((i : Int) + 1) → N e [⟨false,c,5,[v.enc]⟩,ob] c' := fun e c' ob hm hg e1 e3 => by
      refine hN _ _ [⟨false,c,5,[v.enc]⟩] _ h (by simp) ⟨e1,e3,?_,?_,rfl⟩
      · rw [hkt]; exact nodup_snoc hnd hm
      · intro y hy
        rw [htk,List.mem_append,List.mem_singleton] at hy
        rcases hy with hy | rfl
        · exact hall y hy
        · exact ⟨hk,hlt,hg⟩
    cases ht : x.1.Text
    · have hle : ¬ v.Next ≤ x.1.Num := by have := hlt ht; omega
      simp [e1,e3,ht,hle]
      refine rest hlt _ _ _ (fun n hn hg c' => ?_) fun hm c' => ?_
      · simp [e1,e3,hn]
        exact fin_plain ⟨by rw [pdec_false hg],rfl⟩
      simp [e1,e3,h,getW_of hx]
      refine rest2 _ _ _ (fun hg c' => ?_) fun hg c' => ?_
      · simp [e1,e3]
        exact fin1 _ _ _ hm hg (by simp [upd,e1]) (by simp [upd]; exact step64 (by unfold mx; omega) h)
      · simp
        exact fin_plain ⟨by rw [pdec_false fun hh => hg ((ar.1 hh).2.2.2 x hxm).2.2],rfl⟩
    · simp [e1,e3,ht]
      refine rest hlt _ _ _ (fun n hn hg c' => ?_) fun hm c' => ?_
      · simp [e1,e3,hn]
        exact fin_plain ⟨by rw [pdec_false hg],rfl⟩
      simp [e1,e3,h,getW_of hx]
      refine rest2 _ _ _ (fun hg c' => ?_) fun hg c' => ?_
      · simp [e1,e3]
        exact fin1 _ _ _ hm hg (by simp [upd,e1]) (by simp [upd]; exact step64 (by unfold mx; omega) h)
      · simp
        exact fin_plain ⟨by rw [pdec_false fun hh => hg ((ar.1 hh).2.2.2 x hxm).2.2],rfl⟩
  · have hie : i = v.Items.list.length := by omega
    subst hie
    rw [List.take_of_length_le (by simp)] at hnd
    rw [List.take_length] at hall
    simp [e1,e3]
    exact fin_plain ⟨by rw [pdec_true (ar.2 ⟨n0,hR,hnd,hall⟩)],rfl⟩
theorem impl_isVal {v : TValue} (hz : v.sz ≤ 1048576) : Fnc Tryz.prog 108 [.agg v.enc] (.bool (isVal v)) := by
  refine fn_of c108 (by simp [F108]) fun c => ?_
  unfold F108
  simp
  refine call_fn0 (impl_weight v (by omega)) .int fun _ _ => ?_
  by_cases h : v.wt ≤ 200
  · have h' : (v.wt : Int) ≤ 200 := by omega
    simp [h']
    refine call_fn0 (impl_wf v hz) .bool fun _ _ => ?_
    simp
    exact fin_plain ⟨by simp [isVal,h],rfl⟩
  · have h' : ¬ (v.wt : Int) ≤ 200 := by omega
    simp [h']
    exact fin_plain ⟨by simp [isVal,h],rfl⟩
theorem spec_isVal {v : TValue} (hz : v.sz ≤ 1048576) : Fnc Tryz.prog 95 [.agg v.enc] (.bool (isVal v)) := by
  refine fn_of c95 (by simp [F95]) fun c => ?_
  unfold F95
  simp
  refine call_tree0 (spec_weigh v (by omega) 200 (by omega)) fun r c2 _ ⟨n,hr,n1,n2,n3⟩ _ => ?_
  subst hr
  by_cases h : v.wt ≤ 200
  · have h' : (n : Int) ≤ 200 := by omega
    simp [h']
    refine call_fn0 (spec_wf v hz) .bool fun _ _ => ?_
    simp
    exact fin_plain ⟨by simp [isVal,h],rfl⟩
  · have h' : ¬ (n : Int) ≤ 200 := by omega
    simp [h']
    exact fin_plain ⟨by simp [isVal,h],rfl⟩
set_option maxRecDepth 100000
theorem inR_iff2 {x lo hi : Int} (h : inR x lo hi = true) : lo ≤ x ∧ x ≤ hi := by simpa [inR] using h
def errS : List UInt8 := [69,114,114,111,114]
def msgS : List UInt8 := [109,101,115,115,97,103,101]
def metName (m : TMethod) : List UInt8 := m.From ++ [58,58] ++ m.Name
structure FieldOk (f : TField) : Prop where
  gd : good f.Name = true
  vl : isVal f.Init = true
  kd : inR f.Init.Kind 0 3 = true
def MetOk (p : TProgram) (m : TMethod) : Prop := ∃ g,g ∈ p.Funcs.list ∧ g.Name = metName m ∧ isTop g.Name = false ∧ g.Uses.list.length = 0
structure ClassOk (p : TProgram) (c : TClass) : Prop where
  nd : (c.Fields.list.map TField.Name).Nodup
  fs : ∀ f,f ∈ c.Fields.list → FieldOk f
  ms : ∀ m,m ∈ c.Methods.list → MetOk p m
def Cls0 (p : TProgram) : Prop := ∃ c f,p.Classes.list[0]? = some c ∧ c.Name = errS ∧ c.Fields.list[0]? = some f ∧ f.Name = msgS
structure ProgOk (p : TProgram) : Prop where
  fl : p.Funcs.list.length ≤ 5000
  c0 : Cls0 p
  fnd : (p.Funcs.list.map TFunc.Name).Nodup
  fok : ∀ f,f ∈ p.Funcs.list → FuncOk f
  cnd : (p.Classes.list.map TClass.Name).Nodup
  cok : ∀ c,c ∈ p.Classes.list → ClassOk p c
def fR : List TFunc → Nat → List (List UInt8 × AV)
  | [],_ => []
  | f :: l,i => (f.Name,.int .i64 (i : Int)) :: fR l (i + 1)
theorem fR_fst : ∀ (l : List TFunc) (i : Nat),(fR l i).map Prod.fst = l.map TFunc.Name
  | [],_ => rfl
  | f :: l,i => by simp [fR,fR_fst l (i + 1)]
theorem fR_mem {k : List UInt8} {v : AV} : ∀ (l : List TFunc) (i : Nat),(k,v) ∈ fR l i → ∃ (j : Nat) (f : TFunc),l[j]? = some f ∧ f.Name = k ∧ v = .int .i64 ((i + j : Nat) : Int)
  | [],_,h => by simp [fR] at h
  | f :: l,i,h => by
    simp only [fR,List.mem_cons,Prod.mk.injEq] at h
    rcases h with ⟨rfl,rfl⟩ | h
    · exact ⟨0,f,rfl,rfl,rfl⟩
    · obtain ⟨j,g,h1,h2,h3⟩ := fR_mem l (i + 1) h
      exact ⟨j + 1,g,by simpa using h1,h2,by rw [h3,show i + 1 + j = i + (j + 1) by omega]⟩
theorem fR_snoc (f : TFunc) : ∀ (l : List TFunc) (i : Nat),fR (l ++ [f]) i = fR l i ++ [(f.Name,.int .i64 ((i + l.length : Nat) : Int))]
  | [],i => by simp [fR]
  | g :: l,i => by
    rw [List.cons_append,fR,fR_snoc f l (i + 1),fR,List.cons_append,List.length_cons,show i + 1 + l.length = i + (l.length + 1) by omega]
theorem fR_no {l : List TFunc} {k : List UInt8} (h : k ∉ l.map TFunc.Name) : mfind (.str k) (mkRows (fR l 0)) 0 = some none := mfS_no _ 0 (by rw [fR_fst]; exact h)
theorem fR_yes {l : List TFunc} {k : List UInt8} (h : k ∈ l.map TFunc.Name) : ∃ (j i : Nat) (f : TFunc),mfind (.str k) (mkRows (fR l 0)) 0 = some (some (j,.int .i64 (i : Int))) ∧ l[i]? = some f ∧ f.Name = k := by
  obtain ⟨j,v,h1,h2⟩ := mfS_yes (fR l 0) 0 (by rw [fR_fst]; exact h)
  obtain ⟨i,f,h3,h4,rfl⟩ := fR_mem l 0 h2
  exact ⟨j,i,f,by rw [h1,Nat.zero_add],h3,h4⟩
theorem fR_len : ∀ (l : List TFunc) (i : Nat),(fR l i).length = l.length
  | [],_ => rfl
  | f :: l,i => by simp [fR,fR_len l (i + 1)]
theorem names_inj {l : List TFunc} (hn : (l.map TFunc.Name).Nodup) {i j : Nat} {f g : TFunc} (hf : l[i]? = some f) (hg : l[j]? = some g) (h : f.Name = g.Name) : i = j := by
  have h1 : (l.map TFunc.Name)[i]? = some f.Name := by simp [hf]
  have h2 : (l.map TFunc.Name)[j]? = some f.Name := by simp [hg,h]
  have l1 := (List.getElem?_eq_some_iff.1 h1).1
  exact (List.getElem?_inj l1 hn).1 (h1.trans h2.symm)
theorem names_eq {l : List TFunc} (hn : (l.map TFunc.Name).Nodup) {f g : TFunc} (hf : f ∈ l) (hg : g ∈ l) (h : f.Name = g.Name) : f = g := by
  obtain ⟨i,hi⟩ := List.getElem?_of_mem hf
  obtain ⟨j,hj⟩ := List.getElem?_of_mem hg
  have := names_inj hn hi hj h
  subst this
  rw [hi] at hj; exact Option.some.inj hj
theorem fsz {p : TProgram} {f : TFunc} (hz : p.sz ≤ 1048576) (hf : f ∈ p.Funcs.list) : f.sz ≤ 1048576 := by
  have := szL_mem (sz := TFunc.sz) hf
  unfold TProgram.sz szFuncS at hz; omega
theorem csz {p : TProgram} {c : TClass} (hz : p.sz ≤ 1048576) (hc : c ∈ p.Classes.list) : c.sz ≤ 1048576 := by
  have := szL_mem (sz := TClass.sz) hc
  unfold TProgram.sz szClassS at hz; omega
theorem fdsz {c : TClass} {f : TField} (hz : c.sz ≤ 1048576) (hf : f ∈ c.Fields.list) : f.sz ≤ 1048576 := by
  have := szL_mem (sz := TField.sz) hf
  unfold TClass.sz szFieldS at hz; omega
theorem mtsz {c : TClass} {f : TMethod} (hz : c.sz ≤ 1048576) (hf : f ∈ c.Methods.list) : f.sz ≤ 1048576 := by
  have := szL_mem (sz := TMethod.sz) hf
  unfold TClass.sz szMethodS at hz; omega
set_option maxHeartbeats 4000000 in
theorem impl_isProgram {p : TProgram} (hp : p.ok) (hz : p.sz ≤ 1048576) : Fnc Tryz.prog 58 [.agg p.enc] (.bool (pdec (ProgOk p))) := by
  refine fn_of c58 (by simp [F58]) fun c => ?_
  unfold F58
  have hfl : p.Funcs.list.length ≤ 1048576 := by unfold TProgram.sz szFuncS at hz; omega
  have hcl : p.Classes.list.length ≤ 1048576 := by unfold TProgram.sz szClassS at hz; omega
  refine seq_cut (fun e H c' => e 1 = .ptr 0 c 2 0 0 ∧ H = [⟨false,c,2,[p.enc]⟩]) ?_ ?_
  rotate_left
  · intro K hK
    simp
    exact hK _ _ _ ⟨rfl,rfl⟩
  intro e H c1 ⟨e1,hH⟩
  subst hH
  refine seq_cut (fun e H c' => e 1 = .ptr 0 c 2 0 0 ∧ H = [⟨false,c,2,[p.enc]⟩] ∧ p.Funcs.list.length ≤ 5000 ∧ p.Classes.list ≠ []) ?_ ?_
  rotate_left
  · intro K hK
    by_cases h1 : (5000 : Int) < p.Funcs.list.length
    · simp [e1,h1]
      rw [pdec_false fun h => by have := h.fl; omega]
      exact fin_plain ⟨rfl,rfl⟩
    by_cases h2 : p.Classes.list = []
    · simp [e1,h1,h2]
      rw [pdec_false fun h => by obtain ⟨c,f,hc,_⟩ := h.c0; rw [h2] at hc; cases hc]
      exact fin_plain ⟨rfl,rfl⟩
    simp [e1,h1,h2]
    exact hK _ _ _ ⟨by simp [upd,e1],rfl,by omega,h2⟩
  clear e1 e
  intro e H c2 ⟨e1,hH,hf5,hcne⟩
  subst hH
  refine seq_cut (fun e H c' => ∃ t,e 1 = .ptr 0 c 2 0 0 ∧ e 3 = .mref 1 t ∧ H = [⟨false,c,2,[p.enc]⟩,⟨true,t,0,[]⟩]) ?_ ?_
  rotate_left
  · intro K hK
    simp
    exact hK _ _ _ ⟨_,by simp [upd,e1],rfl,rfl⟩
  clear e1 e
  intro e H c3 ⟨tM,e1,e3,hH⟩
  subst hH
  refine seq_cut (fun e H c' => e 1 = .ptr 0 c 2 0 0 ∧ e 3 = .mref 1 tM ∧ (p.Funcs.list.map TFunc.Name).Nodup ∧ (∀ f,f ∈ p.Funcs.list → FuncOk f) ∧ H = [⟨false,c,2,[p.enc]⟩,⟨true,tM,0,mkRows (fR p.Funcs.list 0)⟩]) ?_ ?_
  rotate_left
  · intro K hK
    simp [e1]
    refine loop_drop p.Funcs.list.length (fun i e H c' => e 1 = .ptr 0 c 2 0 0 ∧ e 3 = .mref 1 tM ∧ e 31 = p.Funcs.av 6 TFunc.enc ∧ e 32 = .int .i64 p.Funcs.list.length ∧ e 33 = .int .i64 i ∧ ((p.Funcs.list.take i).map TFunc.Name).Nodup ∧ (∀ f,f ∈ p.Funcs.list.take i → FuncOk f) ∧
      H = [⟨false,c,2,[p.enc]⟩,⟨true,tM,0,mkRows (fR (p.Funcs.list.take i) 0)⟩]) ⟨by simp [upd,e1],by simp [upd,e3],by simp [upd],by simp [upd],by simp [upd],by simp,by simp,by simp [fR,mkRows]⟩ ?_
    clear e1 e3 e
    intro i e H c' hi ⟨e1,e3,e31,e32,e33,hnd,hok,hH⟩ N hN
    subst hH
    by_cases h : i < p.Funcs.list.length
    · have hx : p.Funcs.list[i]? = some p.Funcs.list[i] := List.getElem?_eq_getElem h
      have htk : p.Funcs.list.take (i + 1) = p.Funcs.list.take i ++ [p.Funcs.list[i]] := List.take_succ_eq_append_getElem h
      have hxm : p.Funcs.list[i] ∈ p.Funcs.list := List.getElem_mem h
      generalize p.Funcs.list[i] = f at hx htk hxm
      have hkx : (p.Funcs.list.map TFunc.Name)[i]? = some f.Name := by simp [hx]
      simp [e1,e3,e31,e32,e33,h,getW_of hx]
      by_cases hm : f.Name ∈ (p.Funcs.list.take i).map TFunc.Name
      · obtain ⟨j,i2,g,hj,_⟩ := fR_yes hm
        refine lookup2_yes rfl rfl hj ?_
        simp
        rw [pdec_false fun hh => by rw [List.map_take] at hm; exact nodup_at hkx hm hh.fnd]
        exact fin_plain ⟨rfl,rfl⟩
      refine lookup2_no rfl rfl (fR_no hm) ?_
      simp
      refine call_fn0 (impl_isFunc (hp.1.2 f hxm) (by have := fsz hz hxm; omega)) .bool fun _ _ => ?_
      by_cases hfo : FuncOk f
      rotate_left
      · rw [isFunc_false hfo]
        simp
        rw [pdec_false fun hh => hfo (hh.fok f hxm)]
        exact fin_plain ⟨rfl,rfl⟩
      rw [isFunc_true hfo]
      simp [e3]
      refine mupd_no rfl rfl (fR_no hm) (by rw [mkRows_len,fR_len]; simp; unfold mx; omega) ?_
      simp [e1,e3,e31,e32,e33]
      refine hN _ _ [⟨false,c,2,[p.enc]⟩,⟨true,tM,0,mkRows (fR (p.Funcs.list.take i) 0) ++ [[.str f.Name,.int .i64 i]]⟩] _ h (by simp) ⟨by simp [upd,e1],by simp [upd,e3],by simp [upd,e31],by simp [upd,e32],by simp [upd]; exact step64 (by unfold mx; omega) h,?_,?_,?_⟩
      · rw [htk,List.map_append]; exact nodup_snoc hnd hm
      · intro y hy
        rw [htk,List.mem_append,List.mem_singleton] at hy
        rcases hy with hy | rfl
        · exact hok y hy
        · exact hfo
      · rw [mkRows_snoc,htk,fR_snoc,show (p.Funcs.list.take i).length = i by simp; omega,Nat.zero_add]
    · have hie : i = p.Funcs.list.length := by omega
      subst hie
      rw [List.take_length] at hnd hok
      simp [e1,e3,e31,e32,e33]
      exact hK _ _ _ ⟨by simp [upd,e1],by simp [upd,e3],hnd,hok,rfl⟩
  clear e1 e3 e
  intro e H c4 ⟨e1,e3,hfnd,hfok,hH⟩
  subst hH
  generalize hMF : mkRows (fR p.Funcs.list 0) = MF
  obtain ⟨c0,hc0⟩ : ∃ c0,p.Classes.list[0]? = some c0 := by
    cases hcc : p.Classes.list with
    | nil => exact absurd hcc hcne
    | cons a l => exact ⟨a,rfl⟩
  have hcp : 0 < p.Classes.list.length := List.length_pos_iff.2 hcne
  refine seq_cut (fun e H c' => ∃ ob,e 1 = .ptr 0 c 2 0 0 ∧ e 3 = .mref 1 tM ∧ Cls0 p ∧ H = [⟨false,c,2,[p.enc]⟩,⟨true,tM,0,MF⟩,ob]) ?_ ?_
  rotate_left
  · intro K hK
    have hc0m := List.mem_of_getElem? hc0
    have hfdl : c0.Fields.list.length ≤ 1048576 := by have := csz hz hc0m; unfold TClass.sz szFieldS at this; omega
    by_cases hn : c0.Name = errS
    rotate_left
    · have hn' : ¬ c0.Name = [69,114,114,111,114] := hn
      simp [e1,hcp,getW_of hc0,hn']
      rw [pdec_false fun h => by obtain ⟨c,f,hc,h2,_⟩ := h.c0; rw [hc0] at hc; cases hc; exact hn h2]
      exact fin_plain ⟨rfl,rfl⟩
    have hn' : c0.Name = [69,114,114,111,114] := hn
    cases hff : c0.Fields.list with
    | nil =>
      simp [e1,hcp,getW_of hc0,hn',hff]
      rw [pdec_false fun h => by obtain ⟨c,f,hc,h2,h3,_⟩ := h.c0; rw [hc0] at hc; cases hc; rw [hff] at h3; cases h3]
      exact fin_plain ⟨rfl,rfl⟩
    | cons f0 l =>
      have hf0 : c0.Fields.list[0]? = some f0 := by rw [hff]; rfl
      have hne : ¬ c0.Fields.list = [] := by rw [hff]; simp
      have hlp : 0 < c0.Fields.list.length := by rw [hff]; simp
      clear hff
      by_cases hm : f0.Name = msgS
      · have hm' : f0.Name = [109,101,115,115,97,103,101] := hm
        simp [e1,hcp,getW_of hc0,hn',hne,hlp,getW_of hf0,hm']
        exact hK _ _ _ ⟨_,by simp [upd,e1],by simp [upd,e3],⟨c0,f0,hc0,hn,hf0,hm⟩,rfl⟩
      · have hm' : ¬ f0.Name = [109,101,115,115,97,103,101] := hm
        simp [e1,hcp,getW_of hc0,hn',hne,hlp,getW_of hf0,hm']
        rw [pdec_false fun h => by obtain ⟨c,f,hc,h2,h3,h4⟩ := h.c0; rw [hc0] at hc; cases hc; rw [hf0] at h3; cases h3; exact hm h4]
        exact fin_plain ⟨rfl,rfl⟩
  clear e1 e3 e
  intro e H c5 ⟨ob,e1,e3,hcls0,hH⟩
  subst hH
  refine seq_cut (fun e H c' => ∃ t,e 1 = .ptr 0 c 2 0 0 ∧ e 3 = .mref 1 tM ∧ e 9 = .mref 3 t ∧ H = [⟨false,c,2,[p.enc]⟩,⟨true,tM,0,MF⟩,ob,⟨true,t,0,[]⟩]) ?_ ?_
  rotate_left
  · intro K hK
    simp
    exact hK _ _ _ ⟨_,by simp [upd,e1],by simp [upd,e3],rfl,rfl⟩
  clear e1 e3 e
  intro e H c6 ⟨tC,e1,e3,e9,hH⟩
  subst hH
  refine seq_cut (fun e H c' => (p.Classes.list.map TClass.Name).Nodup ∧ (∀ c,c ∈ p.Classes.list → ClassOk p c)) ?_ ?_
  · intro e H c' ⟨h1,h2⟩
    simp
    rw [pdec_true ⟨hf5,hcls0,hfnd,hfok,h1,h2⟩]
    exact fin_plain ⟨rfl,rfl⟩
  intro K hK
  simp [e1]
  refine loop_drop p.Classes.list.length (fun i e H c' => e 1 = .ptr 0 c 2 0 0 ∧ e 3 = .mref 1 tM ∧ e 9 = .mref 3 tC ∧ e 79 = p.Classes.av 4 TClass.enc ∧ e 80 = .int .i64 p.Classes.list.length ∧ e 81 = .int .i64 i ∧ ((p.Classes.list.map TClass.Name).take i).Nodup ∧ (∀ c,c ∈ p.Classes.list.take i → ClassOk p c) ∧
      H = [⟨false,c,2,[p.enc]⟩,⟨true,tM,0,MF⟩,ob,⟨true,tC,0,seenT ((p.Classes.list.map TClass.Name).take i)⟩]) ⟨by simp [upd,e1],by simp [upd,e3],by simp [upd,e9],by simp [upd],by simp [upd],by simp [upd],by simp,by simp,by simp [seenT_nil]⟩ ?_
  clear e1 e3 e9 e
  intro i e H c' hi ⟨e1,e3,e9,e79,e80,e81,hnd,hok,hH⟩ N hN
  subst hH
  by_cases h : i < p.Classes.list.length
  rotate_left
  · have hie : i = p.Classes.list.length := by omega
    subst hie
    rw [List.take_of_length_le (by simp)] at hnd
    rw [List.take_length] at hok
    simp [e1,e3,e9,e79,e80,e81]
    exact hK _ _ _ ⟨hnd,hok⟩
  have hx : p.Classes.list[i]? = some p.Classes.list[i] := List.getElem?_eq_getElem h
  have htk : p.Classes.list.take (i + 1) = p.Classes.list.take i ++ [p.Classes.list[i]] := List.take_succ_eq_append_getElem h
  have hxm : p.Classes.list[i] ∈ p.Classes.list := List.getElem_mem h
  generalize p.Classes.list[i] = cl at hx htk hxm
  have hkx : (p.Classes.list.map TClass.Name)[i]? = some cl.Name := by simp [hx]
  have hcz := csz hz hxm
  have hfdl : cl.Fields.list.length ≤ 1048576 := by have := hcz; unfold TClass.sz szFieldS at this; omega
  have hmtl : cl.Methods.list.length ≤ 1048576 := by have := hcz; unfold TClass.sz szMethodS at this; omega
  have hclok := hp.2.2 cl hxm
  simp [e1,e3,e9,e79,e80,e81,h,getW_of hx]
  by_cases hm : cl.Name ∈ (p.Classes.list.map TClass.Name).take i
  · obtain ⟨j,hj⟩ := seenT_yes hm
    refine lookup_yes rfl rfl hj ?_
    simp
    rw [pdec_false fun hh => nodup_at hkx hm hh.cnd]
    exact fin_plain ⟨rfl,rfl⟩
  refine lookup_no rfl rfl (seenT_no hm) ?_
  simp [e9]
  refine mupd_no rfl rfl (seenT_no hm) (by rw [seenT_len]; simp; unfold mx; omega) ?_
  have hkt : (p.Classes.list.map TClass.Name).take (i + 1) = (p.Classes.list.map TClass.Name).take i ++ [cl.Name] := by obtain ⟨h1,h2⟩ := List.getElem?_eq_some_iff.1 hkx; rw [List.take_succ_eq_append_getElem h1,h2]
  rw [seenT_snoc,← hkt]
  simp [e1,e3,e9,e79,e80,e81]
  generalize hSC : seenT ((p.Classes.list.map TClass.Name).take (i + 1)) = SC
  generalize hOC : (⟨false,c',4,[cl.enc]⟩ : AObj) = OC
  refine loop_drop cl.Fields.list.length (fun k e H c2 => e 1 = .ptr 0 c 2 0 0 ∧ e 3 = .mref 1 tM ∧ e 9 = .mref 3 tC ∧ e 79 = p.Classes.av 4 TClass.enc ∧ e 80 = .int .i64 p.Classes.list.length ∧ e 81 = .int .i64 i ∧ e 11 = .ptr 4 c' 4 0 0 ∧ e 94 = cl.Fields.av 8 TField.enc ∧ e 95 = .int .i64 cl.Fields.list.length ∧ e 96 = .int .i64 k ∧ ((cl.Fields.list.map TField.Name).take k).Nodup ∧ (∀ f,f ∈ cl.Fields.list.take k → FieldOk f) ∧
      (∃ tF,e 12 = .mref 5 tF ∧ H = [⟨false,c,2,[p.enc]⟩,⟨true,tM,0,MF⟩,ob,⟨true,tC,0,SC⟩,OC,⟨true,tF,0,seenT ((cl.Fields.list.map TField.Name).take k)⟩])) ⟨by simp [upd,e1],by simp [upd,e3],by simp [upd,e9],by simp [upd,e79],by simp [upd,e80],by simp [upd,e81],by simp [upd],by simp [upd],by simp [upd],by simp [upd],by simp,by simp,_,by simp [upd]; rfl,by simp [seenT_nil]⟩ ?_
  clear e1 e3 e9 e79 e80 e81 e
  intro k e H c2 hk ⟨e1,e3,e9,e79,e80,e81,e11,e94,e95,e96,hfn,hfo,tF,e12,hH⟩ M hM
  subst hH
  by_cases h2 : k < cl.Fields.list.length
  · have hy : cl.Fields.list[k]? = some cl.Fields.list[k] := List.getElem?_eq_getElem h2
    have hyt : cl.Fields.list.take (k + 1) = cl.Fields.list.take k ++ [cl.Fields.list[k]] := List.take_succ_eq_append_getElem h2
    have hym : cl.Fields.list[k] ∈ cl.Fields.list := List.getElem_mem h2
    generalize cl.Fields.list[k] = f at hy hyt hym
    have hky : (cl.Fields.list.map TField.Name)[k]? = some f.Name := by simp [hy]
    have hkyt : (cl.Fields.list.map TField.Name).take (k + 1) = (cl.Fields.list.map TField.Name).take k ++ [f.Name] := by obtain ⟨h1,h2⟩ := List.getElem?_eq_some_iff.1 hky; rw [List.take_succ_eq_append_getElem h1,h2]
    have hfz := fdsz hcz hym
    have hiz : f.Init.sz ≤ 1048576 := by unfold TField.sz at hfz; omega
    simp [e1,e3,e9,e11,e12,e94,e95,e96,h2,getW_of hy]
    by_cases hmf : f.Name ∈ (cl.Fields.list.map TField.Name).take k
    · obtain ⟨j,hj⟩ := seenT_yes hmf
      refine lookup_yes rfl rfl hj ?_
      simp
      rw [pdec_false fun hh => nodup_at hky hmf (hh.cok cl hxm).nd]
      exact fin_plain ⟨rfl,rfl⟩
    refine lookup_no rfl rfl (seenT_no hmf) ?_
    simp
    refine call_fn0 (goodName_fn (hclok.2.2.1.2 f hym).1) .bool fun _ _ => ?_
    cases hg : isName f.Name && !isReserved f.Name
    · simp
      rw [pdec_false fun hh => by have := ((hh.cok cl hxm).fs f hym).gd; unfold good at this; rw [hg] at this; cases this]
      exact fin_plain ⟨rfl,rfl⟩
    simp
    refine call_fn0 (impl_isVal hiz) .bool fun _ _ => ?_
    cases hv : isVal f.Init
    · simp
      rw [pdec_false fun hh => by have := ((hh.cok cl hxm).fs f hym).vl; rw [hv] at this; cases this]
      exact fin_plain ⟨rfl,rfl⟩
    simp
    refine call_fn0 (inRange_fn _ _ _) .bool fun _ _ => ?_
    cases hkd : inR f.Init.Kind 0 3
    · simp
      rw [pdec_false fun hh => by have := ((hh.cok cl hxm).fs f hym).kd; rw [hkd] at this; cases this]
      exact fin_plain ⟨rfl,rfl⟩
    simp [e12]
    refine mupd_no rfl rfl (seenT_no hmf) (by rw [seenT_len]; simp; unfold mx; omega) ?_
    rw [seenT_snoc,← hkyt]
    simp [e1,e3,e9,e11,e12,e94,e95,e96]
    refine hM _ _ [⟨false,c,2,[p.enc]⟩,⟨true,tM,0,MF⟩,ob,⟨true,tC,0,SC⟩,OC,⟨true,tF,0,seenT ((cl.Fields.list.map TField.Name).take (k + 1))⟩] _ h2 (by simp) ⟨by simp [upd,e1],by simp [upd,e3],by simp [upd,e9],by simp [upd,e79],by simp [upd,e80],by simp [upd,e81],by simp [upd,e11],by simp [upd,e94],by simp [upd,e95],by simp [upd]; exact step64 (by unfold mx; omega) h2,?_,?_,tF,by simp [upd,e12],rfl⟩
    · rw [hkyt]; exact nodup_snoc hfn hmf
    · intro y hy2
      rw [hyt,List.mem_append,List.mem_singleton] at hy2
      rcases hy2 with hy2 | rfl
      · exact hfo y hy2
      · exact ⟨hg,hv,hkd⟩
  have hke : k = cl.Fields.list.length := by omega
  subst hke
  rw [List.take_of_length_le (by simp)] at hfn
  rw [List.take_length] at hfo
  generalize hSF : seenT ((cl.Fields.list.map TField.Name).take cl.Fields.list.length) = SF
  subst hOC
  simp [e1,e3,e9,e11,e12,e94,e95,e96]
  generalize hOC : (⟨false,c',4,[cl.enc]⟩ : AObj) = OC
  refine loop_drop cl.Methods.list.length (fun k e H c2 => e 1 = .ptr 0 c 2 0 0 ∧ e 3 = .mref 1 tM ∧ e 9 = .mref 3 tC ∧ e 79 = p.Classes.av 4 TClass.enc ∧ e 80 = .int .i64 p.Classes.list.length ∧ e 81 = .int .i64 i ∧ e 128 = cl.Methods.av 5 TMethod.enc ∧ e 129 = .int .i64 cl.Methods.list.length ∧ e 130 = .int .i64 k ∧ (∀ m,m ∈ cl.Methods.list.take k → MetOk p m) ∧
      H = [⟨false,c,2,[p.enc]⟩,⟨true,tM,0,MF⟩,ob,⟨true,tC,0,SC⟩,OC,⟨true,tF,0,SF⟩]) ⟨by simp [upd,e1],by simp [upd,e3],by simp [upd,e9],by simp [upd,e79],by simp [upd,e80],by simp [upd,e81],by simp [upd],by simp [upd],by simp [upd],by simp,rfl⟩ ?_
  clear e1 e3 e9 e79 e80 e81 e11 e12 e94 e95 e96 e
  intro k e H c3 hk3 ⟨e1,e3,e9,e79,e80,e81,e128,e129,e130,hmo,hH⟩ L hL
  subst hH
  by_cases h3 : k < cl.Methods.list.length
  · have hy : cl.Methods.list[k]? = some cl.Methods.list[k] := List.getElem?_eq_getElem h3
    have hyt : cl.Methods.list.take (k + 1) = cl.Methods.list.take k ++ [cl.Methods.list[k]] := List.take_succ_eq_append_getElem h3
    have hym : cl.Methods.list[k] ∈ cl.Methods.list := List.getElem_mem h3
    generalize cl.Methods.list[k] = m at hy hyt hym
    have hmz := mtsz hcz hym
    have hmn : (metName m).length ≤ 2097160 := by unfold TMethod.sz at hmz; simp only [metName,List.length_append,List.length_cons,List.length_nil]; omega
    have hl1 : m.From.length + 2 ≤ mx := by unfold TMethod.sz at hmz; unfold mx; omega
    have hl2 : m.From.length + 2 + m.Name.length ≤ mx := by unfold TMethod.sz at hmz; unfold mx; omega
    have hl3 : m.From.length + (m.Name.length + 2) ≤ mx := by unfold TMethod.sz at hmz; unfold mx; omega
    have hmn2 : m.From ++ 58 :: 58 :: m.Name = metName m := by simp [metName]
    have bad : (∀ g,g ∈ p.Funcs.list → g.Name = metName m → isTop g.Name = true ∨ g.Uses.list ≠ []) → ¬ ProgOk p := fun hb hh => by
      obtain ⟨g,h1,h2,h3,h4⟩ := (hh.cok cl hxm).ms m hym
      rcases hb g h1 h2 with h | h
      · rw [h] at h3; cases h3
      · exact h (List.length_eq_zero_iff.1 h4)
    simp [e1,e3,e9,e128,e129,e130,h3,getW_of hy,hl1,hl2,hl3,hmn2]
    subst hMF
    by_cases hmm : metName m ∈ p.Funcs.list.map TFunc.Name
    rotate_left
    · refine lookup2_no rfl rfl (fR_no hmm) ?_
      simp
      rw [pdec_false (bad fun g h1 h2 => absurd (h2 ▸ List.mem_map_of_mem h1) hmm)]
      exact fin_plain ⟨rfl,rfl⟩
    obtain ⟨j,i2,g,hj,hg1,hg2⟩ := fR_yes hmm
    refine lookup2_yes rfl rfl hj ?_
    have hgi : i2 < p.Funcs.list.length := (List.getElem?_eq_some_iff.1 hg1).1
    have hgm := List.mem_of_getElem? hg1
    have uniq : ∀ g',g' ∈ p.Funcs.list → g'.Name = metName m → g' = g := fun g' h1 h2 => names_eq hfnd h1 hgm (h2.trans hg2.symm)
    simp [e1,hgi,getW_of hg1]
    refine call_fn0 (impl_isFile (hp.1.2 g hgm)) .bool fun _ _ => ?_
    cases htp : isTop g.Name
    rotate_left
    · simp
      rw [pdec_false (bad fun g' h1 h2 => .inl (by rw [uniq g' h1 h2]; exact htp))]
      exact fin_plain ⟨rfl,rfl⟩
    cases hus : g.Uses.list with
    | cons a l =>
      simp [e1,hgi,getW_of hg1,hus]
      rw [pdec_false (bad fun g' h1 h2 => .inr (by rw [uniq g' h1 h2,hus]; simp))]
      exact fin_plain ⟨rfl,rfl⟩
    | nil =>
      simp [e1,e130,hgi,getW_of hg1,hus]
      refine hL _ _ [⟨false,c,2,[p.enc]⟩,⟨true,tM,0,mkRows (fR p.Funcs.list 0)⟩,ob,⟨true,tC,0,SC⟩,OC,⟨true,tF,0,SF⟩] _ h3 (by simp) ⟨by simp [upd,e1],by simp [upd,e3],by simp [upd,e9],by simp [upd,e79],by simp [upd,e80],by simp [upd,e81],by simp [upd,e128],by simp [upd,e129],by simp [upd]; exact step64 (by unfold mx; omega) h3,?_,rfl⟩
      intro y hy2
      rw [hyt,List.mem_append,List.mem_singleton] at hy2
      rcases hy2 with hy2 | rfl
      · exact hmo y hy2
      · exact ⟨g,hgm,hg2,htp,by rw [hus]; rfl⟩
  have hke : k = cl.Methods.list.length := by omega
  subst hke
  rw [List.take_length] at hmo
  simp [e1,e3,e9,e81,e128,e129,e130]
  refine hN _ _ [⟨false,c,2,[p.enc]⟩,⟨true,tM,0,MF⟩,ob,⟨true,tC,0,SC⟩] _ h (by simp) ⟨by simp [upd,e1],by simp [upd,e3],by simp [upd,e9],by simp [upd,e79],by simp [upd,e80],by simp [upd]; exact step64 (by unfold mx; omega) h,?_,?_,by rw [hSC]⟩
  · rw [hkt]; exact nodup_snoc hnd hm
  · intro y hy2
    rw [htk,List.mem_append,List.mem_singleton] at hy2
    rcases hy2 with hy2 | rfl
    · exact hok y hy2
    · exact ⟨hfn,hfo,hmo⟩
set_option maxRecDepth 100000
theorem findFunc_fn {p : TProgram} (hz : p.Funcs.list.length ≤ 1048576) {s : List UInt8} : Fnc Tryz.prog 92 [.agg p.enc,.str s] (.int .i64 (firstAt s (p.Funcs.list.map TFunc.Name) 0)) := by
  refine fn_of c92 (by simp [F92]) fun c => ?_
  unfold F92
  simp
  refine loop_drop p.Funcs.list.length (fun i e H c' => e 1 = .str s ∧ e 2 = .ptr 0 c 2 0 0 ∧ e 5 = .int .i64 i ∧ firstAt s (p.Funcs.list.map TFunc.Name) 0 = firstAt s ((p.Funcs.list.map TFunc.Name).drop i) i ∧ H = [⟨false,c,2,[p.enc]⟩]) ⟨rfl,rfl,rfl,by simp,rfl⟩ ?_
  intro i e H c' hi ⟨e1,e2,e5,hd,hH⟩ N hN
  subst hH
  by_cases h : i < p.Funcs.list.length
  · obtain ⟨x,hx⟩ : ∃ x,p.Funcs.list[i]? = some x := ⟨_,List.getElem?_eq_getElem h⟩
    have hkx : (p.Funcs.list.map TFunc.Name)[i]? = some x.Name := by simp [hx]
    rw [firstAt_go hkx] at hd
    by_cases hxs : x.Name = s
    · simp [e1,e2,e5,h,getW_of hx,hxs]
      rw [hd,if_pos hxs]
      exact fin_plain ⟨rfl,rfl⟩
    · simp [e1,e2,e5,h,getW_of hx,hxs]
      rw [if_neg hxs] at hd
      exact hN _ _ _ _ h (List.Sublist.refl _) ⟨by simp [upd,e1],by simp [upd,e2],by simp [upd]; exact step64 (by unfold mx; omega) h,hd,rfl⟩
  · have hie : i = p.Funcs.list.length := by omega
    subst hie
    simp [e1,e2,e5]
    rw [hd,List.drop_of_length_le (by simp)]
    exact fin_plain ⟨rfl,rfl⟩
theorem findClass_fn {cs : SL TClass} (hz : cs.list.length ≤ 1048576) {s : List UInt8} : Fnc Tryz.prog 94 [cs.av 4 TClass.enc,.str s] (.int .i64 (firstAt s (cs.list.map TClass.Name) 0)) := by
  refine fn_of c94 (by simp [F94]) fun c => ?_
  unfold F94
  simp
  refine loop_drop cs.list.length (fun i e H c' => e 0 = cs.av 4 TClass.enc ∧ e 1 = .str s ∧ e 5 = .int .i64 i ∧ firstAt s (cs.list.map TClass.Name) 0 = firstAt s ((cs.list.map TClass.Name).drop i) i ∧ H = []) ⟨rfl,rfl,rfl,by simp,rfl⟩ ?_
  intro i e H c' hi ⟨e0,e1,e5,hd,hH⟩ N hN
  subst hH
  by_cases h : i < cs.list.length
  · obtain ⟨x,hx⟩ : ∃ x,cs.list[i]? = some x := ⟨_,List.getElem?_eq_getElem h⟩
    have hkx : (cs.list.map TClass.Name)[i]? = some x.Name := by simp [hx]
    rw [firstAt_go hkx] at hd
    by_cases hxs : x.Name = s
    · simp [e0,e1,e5,h,getW_of hx,hxs]
      rw [hd,if_pos hxs]
      exact fin_plain ⟨rfl,rfl⟩
    · simp [e0,e1,e5,h,getW_of hx,hxs]
      rw [if_neg hxs] at hd
      exact hN _ _ _ _ h (List.Sublist.refl _) ⟨by simp [upd,e0],by simp [upd,e1],by simp [upd]; exact step64 (by unfold mx; omega) h,hd,rfl⟩
  · have hie : i = cs.list.length := by omega
    subst hie
    simp [e0,e1,e5]
    rw [hd,List.drop_of_length_le (by simp)]
    exact fin_plain ⟨rfl,rfl⟩
theorem firstAt_ne {α : Type} [DecidableEq α] {l : List α} {i : Nat} {s : α} (hx : l[i]? = some s) : (firstAt s l 0 = (i : Int) ∧ s ∉ l.take i) ∨ (firstAt s l 0 ≠ (i : Int) ∧ ¬ l.Nodup) := by
  by_cases hm : s ∈ l.take i
  · refine .inr ⟨?_,nodup_at hx hm⟩
    have := firstAt_less l 0 i hm
    omega
  · exact .inl ⟨by rw [firstAt_first l 0 i hx hm]; simp,hm⟩
theorem firstAt_none {α : Type} [DecidableEq α] {s : α} : ∀ (l : List α) (i : Nat),s ∉ l → firstAt s l i = -1
  | [],_,_ => rfl
  | x :: l,i,h => by
    simp only [List.mem_cons,not_or] at h
    rw [firstAt,if_neg (fun e => h.1 e.symm),firstAt_none l (i + 1) h.2]
theorem firstAt_some {α : Type} [DecidableEq α] {s : α} : ∀ (l : List α) (i : Nat),s ∈ l → ∃ k : Nat,firstAt s l i = ((i + k : Nat) : Int) ∧ l[k]? = some s
  | [],_,h => by simp at h
  | x :: l,i,h => by
    by_cases hx : x = s
    · exact ⟨0,by simp [firstAt,hx],by simp [hx]⟩
    · simp only [List.mem_cons] at h
      obtain ⟨k,h1,h2⟩ := firstAt_some l (i + 1) (h.resolve_left fun e => hx e.symm)
      exact ⟨k + 1,by rw [firstAt,if_neg hx,h1,show i + 1 + k = i + (k + 1) by omega],by simpa using h2⟩
set_option maxHeartbeats 4000000 in
theorem spec_isProgram {p : TProgram} (hp : p.ok) (hz : p.sz ≤ 1048576) : Fnc Tryz.prog 51 [.agg p.enc] (.bool (pdec (ProgOk p))) := by
  refine fn_of c51 (by simp [F51]) fun c => ?_
  unfold F51
  have hfl : p.Funcs.list.length ≤ 1048576 := by unfold TProgram.sz szFuncS at hz; omega
  have hcl : p.Classes.list.length ≤ 1048576 := by unfold TProgram.sz szClassS at hz; omega
  refine seq_cut (fun e H c' => e 1 = .ptr 0 c 2 0 0 ∧ H = [⟨false,c,2,[p.enc]⟩]) ?_ ?_
  rotate_left
  · intro K hK
    simp
    exact hK _ _ _ ⟨rfl,rfl⟩
  intro e H c1 ⟨e1,hH⟩
  subst hH
  refine seq_cut (fun e H c' => e 1 = .ptr 0 c 2 0 0 ∧ H = [⟨false,c,2,[p.enc]⟩] ∧ p.Funcs.list.length ≤ 5000 ∧ Cls0 p) ?_ ?_
  rotate_left
  · intro K hK
    by_cases h1 : (5000 : Int) < p.Funcs.list.length
    · simp [e1,h1]
      rw [pdec_false fun h => by have := h.fl; omega]
      exact fin_plain ⟨rfl,rfl⟩
    by_cases h2 : p.Classes.list = []
    · simp [e1,h1,h2]
      rw [pdec_false fun h => by obtain ⟨c,f,hc,_⟩ := h.c0; rw [h2] at hc; cases hc]
      exact fin_plain ⟨rfl,rfl⟩
    have hcp : 0 < p.Classes.list.length := List.length_pos_iff.2 h2
    obtain ⟨c0,hc0⟩ : ∃ c0,p.Classes.list[0]? = some c0 := by
      cases hcc : p.Classes.list with
      | nil => exact absurd hcc h2
      | cons a l => exact ⟨a,rfl⟩
    have hc0m := List.mem_of_getElem? hc0
    by_cases hn : c0.Name = errS
    rotate_left
    · have hn' : ¬ c0.Name = [69,114,114,111,114] := hn
      simp [e1,h1,h2,hcp,getW_of hc0,hn']
      rw [pdec_false fun h => by obtain ⟨c,f,hc,h2,_⟩ := h.c0; rw [hc0] at hc; cases hc; exact hn h2]
      exact fin_plain ⟨rfl,rfl⟩
    have hn' : c0.Name = [69,114,114,111,114] := hn
    cases hff : c0.Fields.list with
    | nil =>
      simp [e1,h1,h2,hcp,getW_of hc0,hn',hff]
      rw [pdec_false fun h => by obtain ⟨c,f,hc,h2,h3,_⟩ := h.c0; rw [hc0] at hc; cases hc; rw [hff] at h3; cases h3]
      exact fin_plain ⟨rfl,rfl⟩
    | cons f0 l =>
      have hf0 : c0.Fields.list[0]? = some f0 := by rw [hff]; rfl
      have hne : ¬ c0.Fields.list = [] := by rw [hff]; simp
      have hlp : 0 < c0.Fields.list.length := by rw [hff]; simp
      clear hff
      by_cases hm : f0.Name = msgS
      · have hm' : f0.Name = [109,101,115,115,97,103,101] := hm
        simp [e1,h1,h2,hcp,getW_of hc0,hn',hne,hlp,getW_of hf0,hm']
        exact hK _ _ _ ⟨by simp [upd,e1],rfl,by omega,c0,f0,hc0,hn,hf0,hm⟩
      · have hm' : ¬ f0.Name = [109,101,115,115,97,103,101] := hm
        simp [e1,h1,h2,hcp,getW_of hc0,hn',hne,hlp,getW_of hf0,hm']
        rw [pdec_false fun h => by obtain ⟨c,f,hc,h2,h3,h4⟩ := h.c0; rw [hc0] at hc; cases hc; rw [hf0] at h3; cases h3; exact hm h4]
        exact fin_plain ⟨rfl,rfl⟩
  clear e1 e
  intro e H c2 ⟨e1,hH,hf5,hcls0⟩
  subst hH
  refine seq_cut (fun e H c' => e 1 = .ptr 0 c 2 0 0 ∧ (p.Funcs.list.map TFunc.Name).Nodup ∧ (∀ f,f ∈ p.Funcs.list → FuncOk f) ∧ H = [⟨false,c,2,[p.enc]⟩]) ?_ ?_
  rotate_left
  · intro K hK
    simp [e1]
    refine loop_drop p.Funcs.list.length (fun i e H c' => e 1 = .ptr 0 c 2 0 0 ∧ e 3 = .int .i64 i ∧ ((p.Funcs.list.map TFunc.Name).take i).Nodup ∧ (∀ f,f ∈ p.Funcs.list.take i → FuncOk f) ∧ H = [⟨false,c,2,[p.enc]⟩]) ⟨by simp [upd,e1],by simp [upd],by simp,by simp,rfl⟩ ?_
    clear e1 e
    intro i e H c' hi ⟨e1,e3,hnd,hok,hH⟩ N hN
    subst hH
    by_cases h : i < p.Funcs.list.length
    · have hx : p.Funcs.list[i]? = some p.Funcs.list[i] := List.getElem?_eq_getElem h
      have htk : p.Funcs.list.take (i + 1) = p.Funcs.list.take i ++ [p.Funcs.list[i]] := List.take_succ_eq_append_getElem h
      have hxm : p.Funcs.list[i] ∈ p.Funcs.list := List.getElem_mem h
      generalize p.Funcs.list[i] = f at hx htk hxm
      have hkx : (p.Funcs.list.map TFunc.Name)[i]? = some f.Name := by simp [hx]
      have hkt : (p.Funcs.list.map TFunc.Name).take (i + 1) = (p.Funcs.list.map TFunc.Name).take i ++ [f.Name] := by obtain ⟨h1,h2⟩ := List.getElem?_eq_some_iff.1 hkx; rw [List.take_succ_eq_append_getElem h1,h2]
      simp [e1,e3,h,getW_of hx]
      refine callF_fn0 (findFunc_fn (by omega)) .int fun _ _ => ?_
      rcases firstAt_ne hkx with ⟨he,hm⟩ | ⟨he,hm⟩
      rotate_left
      · simp [e1,e3,he]
        rw [pdec_false fun hh => hm hh.fnd]
        exact fin_plain ⟨rfl,rfl⟩
      rw [he]
      simp [e1,e3,h,getW_of hx]
      refine callF_fn0 (spec_isFunc (hp.1.2 f hxm) (by have := fsz hz hxm; omega)) .bool fun _ _ => ?_
      by_cases hfo : FuncOk f
      rotate_left
      · rw [isFunc_false hfo]
        simp
        rw [pdec_false fun hh => hfo (hh.fok f hxm)]
        exact fin_plain ⟨rfl,rfl⟩
      rw [isFunc_true hfo]
      simp [e1,e3]
      refine hN _ _ _ _ h (List.Sublist.refl _) ⟨by simp [upd,e1],by simp [upd]; exact step64 (by unfold mx; omega) h,?_,?_,rfl⟩
      · rw [hkt]; exact nodup_snoc hnd hm
      · intro y hy
        rw [htk,List.mem_append,List.mem_singleton] at hy
        rcases hy with hy | rfl
        · exact hok y hy
        · exact hfo
    · have hie : i = p.Funcs.list.length := by omega
      subst hie
      rw [List.take_of_length_le (by simp)] at hnd
      rw [List.take_length] at hok
      simp [e1,e3]
      exact hK _ _ _ ⟨by simp [upd,e1],hnd,hok,rfl⟩
  clear e1 e
  intro e H c4 ⟨e1,hfnd,hfok,hH⟩
  subst hH
  refine seq_cut (fun e H c' => (p.Classes.list.map TClass.Name).Nodup ∧ (∀ c,c ∈ p.Classes.list → ClassOk p c)) ?_ ?_
  · intro e H c' ⟨h1,h2⟩
    simp
    rw [pdec_true ⟨hf5,hcls0,hfnd,hfok,h1,h2⟩]
    exact fin_plain ⟨rfl,rfl⟩
  intro K hK
  simp [e1]
  refine loop_drop p.Classes.list.length (fun i e H c' => e 1 = .ptr 0 c 2 0 0 ∧ e 4 = .int .i64 i ∧ ((p.Classes.list.map TClass.Name).take i).Nodup ∧ (∀ c,c ∈ p.Classes.list.take i → ClassOk p c) ∧ H = [⟨false,c,2,[p.enc]⟩]) ⟨by simp [upd,e1],by simp [upd],by simp,by simp,rfl⟩ ?_
  clear e1 e
  intro i e H c' hi ⟨e1,e4,hnd,hok,hH⟩ N hN
  subst hH
  by_cases h : i < p.Classes.list.length
  rotate_left
  · have hie : i = p.Classes.list.length := by omega
    subst hie
    rw [List.take_of_length_le (by simp)] at hnd
    rw [List.take_length] at hok
    simp [e1,e4]
    exact hK _ _ _ ⟨hnd,hok⟩
  have hx : p.Classes.list[i]? = some p.Classes.list[i] := List.getElem?_eq_getElem h
  have htk : p.Classes.list.take (i + 1) = p.Classes.list.take i ++ [p.Classes.list[i]] := List.take_succ_eq_append_getElem h
  have hxm : p.Classes.list[i] ∈ p.Classes.list := List.getElem_mem h
  generalize p.Classes.list[i] = cl at hx htk hxm
  have hkx : (p.Classes.list.map TClass.Name)[i]? = some cl.Name := by simp [hx]
  have hkt : (p.Classes.list.map TClass.Name).take (i + 1) = (p.Classes.list.map TClass.Name).take i ++ [cl.Name] := by obtain ⟨h1,h2⟩ := List.getElem?_eq_some_iff.1 hkx; rw [List.take_succ_eq_append_getElem h1,h2]
  have hcz := csz hz hxm
  have hfdl : cl.Fields.list.length ≤ 1048576 := by have := hcz; unfold TClass.sz szFieldS at this; omega
  have hmtl : cl.Methods.list.length ≤ 1048576 := by have := hcz; unfold TClass.sz szMethodS at this; omega
  have hclok := hp.2.2 cl hxm
  simp [e1,e4,h,getW_of hx]
  refine call_fn0 (findClass_fn (by omega)) .int fun c9 _ => ?_
  rcases firstAt_ne hkx with ⟨he,hm⟩ | ⟨he,hm⟩
  rotate_left
  · simp [e1,e4,he]
    rw [pdec_false fun hh => hm hh.cnd]
    exact fin_plain ⟨rfl,rfl⟩
  rw [he]
  simp [e1,e4]
  refine loop_drop cl.Fields.list.length (fun k e H c2 => e 1 = .ptr 0 c 2 0 0 ∧ e 4 = .int .i64 i ∧ e 6 = .int .i64 k ∧ ((cl.Fields.list.map TField.Name).take k).Nodup ∧ (∀ f,f ∈ cl.Fields.list.take k → FieldOk f) ∧ e 5 = .ptr 1 c' 4 0 0 ∧
      H = [⟨false,c,2,[p.enc]⟩,⟨false,c',4,[cl.enc]⟩]) ⟨by simp [upd,e1],by simp [upd,e4],by simp [upd],by simp,by simp,by simp [upd],rfl⟩ ?_
  clear e1 e4 e
  intro k e H c2 hk ⟨e1,e4,e6,hfn,hfo,e5,hH⟩ M hM
  subst hH
  by_cases h2 : k < cl.Fields.list.length
  · have hy : cl.Fields.list[k]? = some cl.Fields.list[k] := List.getElem?_eq_getElem h2
    have hyt : cl.Fields.list.take (k + 1) = cl.Fields.list.take k ++ [cl.Fields.list[k]] := List.take_succ_eq_append_getElem h2
    have hym : cl.Fields.list[k] ∈ cl.Fields.list := List.getElem_mem h2
    generalize cl.Fields.list[k] = f at hy hyt hym
    have hky : (cl.Fields.list.map TField.Name)[k]? = some f.Name := by simp [hy]
    have hkyt : (cl.Fields.list.map TField.Name).take (k + 1) = (cl.Fields.list.map TField.Name).take k ++ [f.Name] := by obtain ⟨h1,h2⟩ := List.getElem?_eq_some_iff.1 hky; rw [List.take_succ_eq_append_getElem h1,h2]
    have hfz := fdsz hcz hym
    have hiz : f.Init.sz ≤ 1048576 := by unfold TField.sz at hfz; omega
    simp [e1,e4,e5,e6,h2,getW_of hy]
    refine call_fn0 (spec_isVal hiz) .bool fun _ _ => ?_
    cases hv : isVal f.Init
    · simp
      rw [pdec_false fun hh => by have := ((hh.cok cl hxm).fs f hym).vl; rw [hv] at this; cases this]
      exact fin_plain ⟨rfl,rfl⟩
    by_cases hkd : f.Init.Kind ≤ 3
    rotate_left
    · have hkd' : (3 : Int) < f.Init.Kind := by omega
      simp [e5,e6,h2,getW_of hy,hkd']
      rw [pdec_false fun hh => by have := inR_iff2 ((hh.cok cl hxm).fs f hym).kd; omega]
      exact fin_plain ⟨rfl,rfl⟩
    have hkd' : ¬ (3 : Int) < f.Init.Kind := by omega
    have hkd3 : inR f.Init.Kind 0 3 = true := by
      unfold isVal at hv
      simp only [Bool.and_eq_true,decide_eq_true_eq] at hv
      have := ((gd_iff _).1 (pdec_iff.1 hv.2)).k0
      simp [inR]; omega
    simp [e5,e6,h2,getW_of hy,hkd']
    refine call_fn0 (l15Name_fn (hclok.2.2.1.2 f hym).1) .bool fun _ _ => ?_
    cases hg : isName f.Name && !isReserved f.Name
    · simp
      rw [pdec_false fun hh => by have := ((hh.cok cl hxm).fs f hym).gd; unfold good at this; rw [hg] at this; cases this]
      exact fin_plain ⟨rfl,rfl⟩
    simp [e5,e6]
    refine loop_drop k (fun j e H c3 => e 1 = .ptr 0 c 2 0 0 ∧ e 4 = .int .i64 i ∧ e 6 = .int .i64 k ∧ e 7 = .int .i64 j ∧ e 5 = .ptr 1 c' 4 0 0 ∧ f.Name ∉ (cl.Fields.list.map TField.Name).take j ∧
      H = [⟨false,c,2,[p.enc]⟩,⟨false,c',4,[cl.enc]⟩]) ⟨by simp [upd,e1],by simp [upd,e4],by simp [upd,e6],by simp [upd],by simp [upd,e5],by simp,rfl⟩ ?_
    clear e1 e4 e5 e6 e
    intro j e H c3 hj ⟨e1,e4,e6,e7,e5,hnj,hH⟩ L hL
    subst hH
    by_cases h3 : j < k
    · have hj2 : j < cl.Fields.list.length := by omega
      obtain ⟨g,hgj⟩ : ∃ g,cl.Fields.list[j]? = some g := ⟨_,List.getElem?_eq_getElem hj2⟩
      have hgk : (cl.Fields.list.map TField.Name)[j]? = some g.Name := by simp [hgj]
      have hgt : (cl.Fields.list.map TField.Name).take (j + 1) = (cl.Fields.list.map TField.Name).take j ++ [g.Name] := by obtain ⟨h1,h2⟩ := List.getElem?_eq_some_iff.1 hgk; rw [List.take_succ_eq_append_getElem h1,h2]
      by_cases hfg : g.Name = f.Name
      · simp [e5,e6,e7,h2,h3,hj2,getW_of hy,getW_of hgj,hfg]
        rw [pdec_false fun hh => ?_]
        · exact fin_plain ⟨rfl,rfl⟩
        · have hnd2 := (hh.cok cl hxm).nd
          have := (List.getElem?_inj (by simp; exact hj2) hnd2).1 (hgk.trans ((congrArg some hfg).trans hky.symm))
          omega
      · simp [e5,e6,e7,h2,h3,hj2,getW_of hy,getW_of hgj,hfg]
        refine hL _ _ _ _ h3 (List.Sublist.refl _) ⟨by simp [upd,e1],by simp [upd,e4],by simp [upd,e6],by simp [upd]; exact step64 (by unfold mx; omega) h3,by simp [upd,e5],?_,rfl⟩
        rw [hgt,List.mem_append,List.mem_singleton]
        rintro (h | h)
        · exact hnj h
        · exact hfg h.symm
    · have hje : j = k := by omega
      subst hje
      simp [e1,e4,e5,e6,e7]
      refine hM _ _ _ _ h2 (List.Sublist.refl _) ⟨by simp [upd,e1],by simp [upd,e4],by simp [upd]; exact step64 (by unfold mx; omega) h2,?_,?_,by simp [upd,e5],rfl⟩
      · rw [hkyt]; exact nodup_snoc hfn hnj
      · intro y hy2
        rw [hyt,List.mem_append,List.mem_singleton] at hy2
        rcases hy2 with hy2 | rfl
        · exact hfo y hy2
        · exact ⟨hg,hv,hkd3⟩
  have hke : k = cl.Fields.list.length := by omega
  subst hke
  rw [List.take_of_length_le (by simp)] at hfn
  rw [List.take_length] at hfo
  simp [e1,e4,e5,e6]
  refine loop_drop cl.Methods.list.length (fun k e H c2 => e 1 = .ptr 0 c 2 0 0 ∧ e 4 = .int .i64 i ∧ e 8 = .int .i64 k ∧ (∀ m,m ∈ cl.Methods.list.take k → MetOk p m) ∧ e 5 = .ptr 1 c' 4 0 0 ∧
      H = [⟨false,c,2,[p.enc]⟩,⟨false,c',4,[cl.enc]⟩]) ⟨by simp [upd,e1],by simp [upd,e4],by simp [upd],by simp,by simp [upd,e5],rfl⟩ ?_
  clear e1 e4 e5 e6 e
  intro k e H c3 hk3 ⟨e1,e4,e8,hmo,e5,hH⟩ L hL
  subst hH
  by_cases h3 : k < cl.Methods.list.length
  · have hy : cl.Methods.list[k]? = some cl.Methods.list[k] := List.getElem?_eq_getElem h3
    have hyt : cl.Methods.list.take (k + 1) = cl.Methods.list.take k ++ [cl.Methods.list[k]] := List.take_succ_eq_append_getElem h3
    have hym : cl.Methods.list[k] ∈ cl.Methods.list := List.getElem_mem h3
    generalize cl.Methods.list[k] = m at hy hyt hym
    have hmz := mtsz hcz hym
    have hl1 : m.From.length + 2 ≤ mx := by unfold TMethod.sz at hmz; unfold mx; omega
    have hl2 : m.From.length + 2 + m.Name.length ≤ mx := by unfold TMethod.sz at hmz; unfold mx; omega
    have hl3 : m.From.length + (m.Name.length + 2) ≤ mx := by unfold TMethod.sz at hmz; unfold mx; omega
    have hmn2 : m.From ++ 58 :: 58 :: m.Name = metName m := by simp [metName]
    have bad : (∀ g,g ∈ p.Funcs.list → g.Name = metName m → isTop g.Name = true ∨ g.Uses.list ≠ []) → ¬ ProgOk p := fun hb hh => by
      obtain ⟨g,h1,h2,h3,h4⟩ := (hh.cok cl hxm).ms m hym
      rcases hb g h1 h2 with h | h
      · rw [h] at h3; cases h3
      · exact h (List.length_eq_zero_iff.1 h4)
    simp [e1,e5,e8,h3,getW_of hy,hl1,hl2,hl3,hmn2]
    refine callF_fn0 (findFunc_fn (by omega)) .int fun _ _ => ?_
    by_cases hmm : metName m ∈ p.Funcs.list.map TFunc.Name
    rotate_left
    · rw [firstAt_none _ 0 hmm]
      simp
      rw [pdec_false (bad fun g h1 h2 => absurd (h2 ▸ List.mem_map_of_mem h1) hmm)]
      exact fin_plain ⟨rfl,rfl⟩
    obtain ⟨i2,hj,hg0⟩ := firstAt_some _ 0 hmm
    rw [hj,Nat.zero_add]
    obtain ⟨g,hg1,hg2⟩ : ∃ g,p.Funcs.list[i2]? = some g ∧ g.Name = metName m := by simpa using hg0
    have hgi : i2 < p.Funcs.list.length := (List.getElem?_eq_some_iff.1 hg1).1
    have hgm := List.mem_of_getElem? hg1
    have uniq : ∀ g',g' ∈ p.Funcs.list → g'.Name = metName m → g' = g := fun g' h1 h2 => names_eq hfnd h1 hgm (h2.trans hg2.symm)
    have hneg : ¬ (i2 : Int) < 0 := by omega
    simp [e1,e5,hgi,getW_of hg1,hneg]
    refine call_fn0 (spec_top (hp.1.2 g hgm)) .bool fun _ _ => ?_
    cases htp : isTop g.Name
    rotate_left
    · simp
      rw [pdec_false (bad fun g' h1 h2 => .inl (by rw [uniq g' h1 h2]; exact htp))]
      exact fin_plain ⟨rfl,rfl⟩
    cases hus : g.Uses.list with
    | cons a l =>
      simp [e1,hgi,getW_of hg1,hus]
      rw [pdec_false (bad fun g' h1 h2 => .inr (by rw [uniq g' h1 h2,hus]; simp))]
      exact fin_plain ⟨rfl,rfl⟩
    | nil =>
      simp [e1,e8,hgi,getW_of hg1,hus]
      refine hL _ _ _ _ h3 (List.Sublist.refl _) ⟨by simp [upd,e1],by simp [upd,e4],by simp [upd]; exact step64 (by unfold mx; omega) h3,?_,by simp [upd,e5],rfl⟩
      intro y hy2
      rw [hyt,List.mem_append,List.mem_singleton] at hy2
      rcases hy2 with hy2 | rfl
      · exact hmo y hy2
      · exact ⟨g,hgm,hg2,htp,by rw [hus]; rfl⟩
  have hke : k = cl.Methods.list.length := by omega
  subst hke
  rw [List.take_length] at hmo
  simp [e1,e4,e5,e8]
  refine hN _ _ [⟨false,c,2,[p.enc]⟩] _ h (by simp) ⟨by simp [upd,e1],by simp [upd]; exact step64 (by unfold mx; omega) h,?_,?_,rfl⟩
  · rw [hkt]; exact nodup_snoc hnd hm
  · intro y hy2
    rw [htk,List.mem_append,List.mem_singleton] at hy2
    rcases hy2 with hy2 | rfl
    · exact hok y hy2
    · exact ⟨hfn,hfo,hmo⟩
set_option maxRecDepth 100000
def uv (n : Nat) : List UInt8 := if h : n < 128 then [UInt8.ofNat n] else UInt8.ofNat (n % 128 + 128) :: uv (n / 128)
termination_by n
decreasing_by omega
theorem uv_small {n : Nat} (h : n < 128) : uv n = [UInt8.ofNat n] := by rw [uv,dif_pos h]
theorem uv_big {n : Nat} (h : ¬ n < 128) : uv n = UInt8.ofNat (n % 128 + 128) :: uv (n / 128) := by rw [uv,dif_neg h]
theorem uv_len : ∀ (k n : Nat),n < 128 ^ (k + 1) → (uv n).length ≤ k + 1
  | 0,n,h => by rw [uv_small (by simpa using h)]; simp
  | k + 1,n,h => by
    by_cases h1 : n < 128
    · rw [uv_small h1]; simp
    · rw [uv_big h1,List.length_cons]
      have := uv_len k (n / 128) (by rw [Nat.pow_succ] at h; omega)
      omega
theorem uv_len6 {n : Nat} (h : n ≤ 1000000000000) : (uv n).length ≤ 6 := uv_len 5 n (by omega)
theorem uv_pos (n : Nat) : 1 ≤ (uv n).length := by rw [uv]; split <;> simp
def eT (s : List UInt8) : List UInt8 := uv s.length ++ s
def eB (b : Bool) : List UInt8 := uv (if b then 1 else 0)
def eN (n : Int) : List UInt8 := uv n.toNat
def eL {α : Type} (f : α → List UInt8) (l : List α) : List UInt8 := uv l.length ++ l.flatMap f
def eP (x : TParam) : List UInt8 := eT x.Name ++ eB x.Ref
def eIns (i : TIns) : List UInt8 := eN i.Op ++ (eN i.A ++ (eN i.B ++ (eT i.S ++ eT i.T)))
def eFunc (f : TFunc) : List UInt8 := eT f.Name ++ (eL eP f.Params.list ++ (eL eP f.Uses.list ++ (eL eT f.Slots.list ++ (eB f.Gen ++ eL eIns f.Code.list))))
def ser (v : TValue) : List UInt8 :=
  if v.Kind = 0 then [78,59] else if v.Kind = 1 then [98,58] ++ Lib.itoa v.Num ++ [59] else if v.Kind = 2 then [105,58] ++ Lib.itoa v.Num ++ [59] else [115,58] ++ Lib.itoa v.Str.length ++ [58] ++ v.Str ++ [59]
def eField (f : TField) : List UInt8 := eT f.Name ++ (eT f.Owner ++ (eB f.Private ++ eT (ser f.Init)))
def eMet (m : TMethod) : List UInt8 := eT m.Name ++ (eT m.Owner ++ (eT m.From ++ (eB m.Private ++ eB m.Static)))
def eClass (c : TClass) : List UInt8 := eT c.Name ++ (eT c.Parent ++ (eL eField c.Fields.list ++ eL eMet c.Methods.list))
def eProg (p : TProgram) : List UInt8 := eL eFunc p.Funcs.list ++ eL eClass p.Classes.list
def BIG : Nat := 1099511627776
theorem flat_le {α : Type} (f : α → List UInt8) (l : List α) (i : Nat) : ((l.take i).flatMap f).length ≤ (l.flatMap f).length := by
  have : l.flatMap f = (l.take i).flatMap f ++ (l.drop i).flatMap f := by rw [← List.flatMap_append,List.take_append_drop]
  rw [this,List.length_append]; omega
theorem flat_step {α : Type} (f : α → List UInt8) {l : List α} {i : Nat} {x : α} (hx : l[i]? = some x) : (l.take (i + 1)).flatMap f = (l.take i).flatMap f ++ f x := by
  obtain ⟨h,rfl⟩ := List.getElem?_eq_some_iff.1 hx
  rw [List.take_succ_eq_append_getElem h,List.flatMap_append]; simp
theorem flat_len {α : Type} (f : α → List UInt8) (g : α → Nat) : ∀ (l : List α),(∀ x,x ∈ l → (f x).length ≤ 100 * g x + 100) → (l.flatMap f).length ≤ 100 * szL g l + 100 * l.length
  | [],_ => by simp
  | x :: l,h => by
    have ih := flat_len f g l fun y hy => h y (List.mem_cons_of_mem _ hy)
    have := h x (List.mem_cons_self ..)
    simp only [List.flatMap_cons,List.length_append,List.length_cons,szL,List.map_cons,List.sum_cons] at *
    omega
theorem eT_len {s : List UInt8} (h : s.length ≤ 1000000000000) : (eT s).length ≤ s.length + 6 := by
  have := uv_len6 h
  simp only [eT,List.length_append]; omega
theorem eB_len (b : Bool) : (eB b).length = 1 := by
  unfold eB
  rw [uv_small (by split <;> omega)]; rfl
theorem eN_len {n : Int} (h : n ≤ 1000000000000) : (eN n).length ≤ 6 := uv_len6 (by omega)
theorem eL_len {α : Type} (f : α → List UInt8) (g : α → Nat) {l : List α} (hl : l.length ≤ 1000000000000) (h : ∀ x,x ∈ l → (f x).length ≤ 100 * g x + 100) : (eL f l).length ≤ 100 * (l.length + szL g l) + 6 := by
  have h1 := flat_len f g l h
  have h2 := uv_len6 hl
  simp only [eL,List.length_append]; omega
theorem eP_len {x : TParam} (h : x.sz ≤ 1048576) : (eP x).length ≤ 100 * x.sz + 100 := by
  have hz : x.sz = x.Name.length := rfl
  have := eT_len (s := x.Name) (by omega)
  have := eB_len x.Ref
  simp only [eP,List.length_append]; omega
structure InsN (x : TIns) : Prop where
  o0 : 0 ≤ x.Op
  o1 : x.Op ≤ 1000000000
  a0 : 0 ≤ x.A
  a1 : x.A ≤ 1000000000
  b0 : 0 ≤ x.B
  b1 : x.B ≤ 1000000000
theorem insN {x : TIns} {slots size : Int} (h : isIns x slots size = true) (h1 : slots ≤ 1000000) (h2 : size ≤ 1000000) : InsN x := by
  unfold isIns at h
  simp only [Bool.and_eq_true] at h
  obtain ⟨⟨⟨⟨ho,ha⟩,hb⟩,_⟩,_⟩ := h
  have ho := inR_iff2 ho
  have ha2 : 0 ≤ x.A ∧ x.A ≤ 1000000000 := by
    unfold opA at ha
    split at ha
    · exact inR_iff2 ha
    split at ha
    · have := inR_iff2 ha; omega
    split at ha
    · have := inR_iff2 ha; omega
    split at ha
    · simp only [Bool.and_eq_true,decide_eq_true_eq] at ha; omega
    split at ha
    · simp only [Bool.and_eq_true,decide_eq_true_eq] at ha; omega
    · simp only [decide_eq_true_eq] at ha; omega
  have hb2 : 0 ≤ x.B ∧ x.B ≤ 1000000000 := by
    unfold opB at hb
    split at hb
    · have := inR_iff2 hb; omega
    split at hb
    · have := inR_iff2 hb; omega
    split at hb
    · have := inR_iff2 hb; omega
    split at hb
    · simp only [Bool.and_eq_true,decide_eq_true_eq] at hb; omega
    split at hb
    · have := inR_iff2 hb; omega
    · simp only [decide_eq_true_eq] at hb; omega
  exact ⟨by omega,by omega,ha2.1,ha2.2,hb2.1,hb2.2⟩
theorem funcN {f : TFunc} (h : FuncOk f) : ∀ x,x ∈ f.Code.list → InsN x := fun x hx => insN (h.hts.2.1 x hx) (by have := h.sl; omega) (by have := h.cl; omega)
theorem eIns_len {x : TIns} (hn : InsN x) (h : x.sz ≤ 1048576) : (eIns x).length ≤ 100 * x.sz + 100 := by
  have hz : x.sz = x.S.length + x.T.length := rfl
  have h1 := eT_len (s := x.S) (by omega)
  have h2 := eT_len (s := x.T) (by omega)
  have h3 := eN_len (n := x.Op) (by have := hn.o1; omega)
  have h4 := eN_len (n := x.A) (by have := hn.a1; omega)
  have h5 := eN_len (n := x.B) (by have := hn.b1; omega)
  simp only [eIns,List.length_append]; omega
theorem szm {α : Type} {sz : α → Nat} {l : List α} {x : α} {n : Nat} (hx : x ∈ l) (h : szL sz l ≤ n) : sz x ≤ n := Nat.le_trans (szL_mem hx) h
theorem eFunc_len {f : TFunc} (hn : ∀ x,x ∈ f.Code.list → InsN x) (h : f.sz ≤ 1048576) : (eFunc f).length ≤ 100 * f.sz + 100 := by
  have hz : f.sz = f.Name.length + (f.Params.list.length + szL TParam.sz f.Params.list) + (f.Uses.list.length + szL TParam.sz f.Uses.list) + (f.Slots.list.length + szL List.length f.Slots.list) + (f.Code.list.length + szL TIns.sz f.Code.list) := rfl
  have h1 := eT_len (s := f.Name) (by omega)
  have h2 := eL_len eP TParam.sz (l := f.Params.list) (by omega) fun x hx => eP_len (szm hx (by omega))
  have h3 := eL_len eP TParam.sz (l := f.Uses.list) (by omega) fun x hx => eP_len (szm hx (by omega))
  have h4 := eL_len eT List.length (l := f.Slots.list) (by omega) fun x hx => by have := eT_len (s := x) (by have := szm (sz := List.length) hx (n := 1048576) (by omega); omega); omega
  have h5 := eL_len eIns TIns.sz (l := f.Code.list) (by omega) fun x hx => eIns_len (hn x hx) (szm hx (by omega))
  have h6 := eB_len f.Gen
  simp only [eFunc,List.length_append]; omega
theorem isVal_gd {v : TValue} (h : isVal v = true) : v.wt ≤ 200 ∧ Gd v := by
  unfold isVal at h
  simp only [Bool.and_eq_true,decide_eq_true_eq] at h
  exact ⟨h.1,(gd_iff v).1 (pdec_iff.1 h.2)⟩
theorem fld_num {f : TField} (h : FieldOk f) : -1000000000 ≤ f.Init.Num ∧ f.Init.Num ≤ 1000000000 ∧ 0 ≤ f.Init.Kind ∧ f.Init.Kind ≤ 3 := by
  obtain ⟨h1,g⟩ := isVal_gd h.vl
  have hk := inR_iff2 h.kd
  refine ⟨?_,?_,hk.1,hk.2⟩
  all_goals
    rcases (by omega : f.Init.Kind = 0 ∨ f.Init.Kind = 1 ∨ f.Init.Kind = 2 ∨ f.Init.Kind = 3) with k | k | k | k
    · have := g.n0 k; omega
    · have := g.n1 k; omega
    · have := inR_iff2 (g.n2 k); omega
    · have := (g.n3 k).1; omega
theorem ser_len {f : TField} (h : FieldOk f) (hz : f.sz ≤ 1048576) : (ser f.Init).length ≤ f.Init.sz + 30 := by
  obtain ⟨n0,n1,k0,k3⟩ := fld_num h
  have hs : f.Init.Str.length ≤ f.Init.sz := by rw [TValue.sz_eq]; omega
  have hz2 : f.sz = f.Name.length + f.Owner.length + f.Init.sz := rfl
  have i1 := itoa_le (n := f.Init.Num) (by omega) (by omega)
  have i2 := itoa_le (n := (f.Init.Str.length : Int)) (by omega) (by omega)
  unfold ser
  split
  · simp
  split
  · simp; omega
  split
  · simp; omega
  · simp; omega
theorem eField_len {f : TField} (h : FieldOk f) (hz : f.sz ≤ 1048576) : (eField f).length ≤ 100 * f.sz + 100 := by
  have hz2 : f.sz = f.Name.length + f.Owner.length + f.Init.sz := rfl
  have h0 := ser_len h hz
  have h1 := eT_len (s := f.Name) (by omega)
  have h2 := eT_len (s := f.Owner) (by omega)
  have h3 := eT_len (s := ser f.Init) (by omega)
  have h4 := eB_len f.Private
  simp only [eField,List.length_append]; omega
theorem eMet_len {m : TMethod} (hz : m.sz ≤ 1048576) : (eMet m).length ≤ 100 * m.sz + 100 := by
  have hz2 : m.sz = m.Name.length + m.Owner.length + m.From.length := rfl
  have h1 := eT_len (s := m.Name) (by omega)
  have h2 := eT_len (s := m.Owner) (by omega)
  have h3 := eT_len (s := m.From) (by omega)
  have h4 := eB_len m.Private
  have h5 := eB_len m.Static
  simp only [eMet,List.length_append]; omega
theorem eClass_len {c : TClass} (h : ∀ f,f ∈ c.Fields.list → FieldOk f) (hz : c.sz ≤ 1048576) : (eClass c).length ≤ 100 * c.sz + 100 := by
  have hz2 : c.sz = c.Name.length + c.Parent.length + (c.Fields.list.length + szL TField.sz c.Fields.list) + (c.Methods.list.length + szL TMethod.sz c.Methods.list) := rfl
  have h1 := eT_len (s := c.Name) (by omega)
  have h2 := eT_len (s := c.Parent) (by omega)
  have h3 := eL_len eField TField.sz (l := c.Fields.list) (by omega) fun x hx => eField_len (h x hx) (szm hx (by omega))
  have h4 := eL_len eMet TMethod.sz (l := c.Methods.list) (by omega) fun x hx => eMet_len (szm hx (by omega))
  simp only [eClass,List.length_append]; omega
theorem eProg_len {p : TProgram} (h : ProgOk p) (hz : p.sz ≤ 1048576) : (eProg p).length ≤ 104857720 := by
  have hz2 : p.sz = (p.Funcs.list.length + szL TFunc.sz p.Funcs.list) + (p.Classes.list.length + szL TClass.sz p.Classes.list) := rfl
  have h3 := eL_len eFunc TFunc.sz (l := p.Funcs.list) (by omega) fun x hx => eFunc_len (funcN (h.fok x hx)) (szm hx (by omega))
  have h4 := eL_len eClass TClass.sz (l := p.Classes.list) (by omega) fun x hx => eClass_len (h.cok x hx).fs (szm hx (by omega))
  simp only [eProg,List.length_append]; omega
set_option maxRecDepth 100000
def andN (a b : Int) : Int := IntKind.i64.wrap ((BitVec.ofInt 64 a &&& BitVec.ofInt 64 b).toNat : Int)
def orN (a b : Int) : Int := IntKind.i64.wrap ((BitVec.ofInt 64 a ||| BitVec.ofInt 64 b).toNat : Int)
theorem intW_andN (a b : Int) (K : AV → Prop) : intW .and .i64 a b K = K (.int .i64 (andN a b)) := rfl
theorem intW_orN (a b : Int) (K : AV → Prop) : intW .or .i64 a b K = K (.int .i64 (orN a b)) := rfl
theorem ofInt64 (a : Nat) : BitVec.ofInt 64 (a : Int) = BitVec.ofNat 64 a := by simp
theorem andN_nat {a b : Nat} (ha : a < 9223372036854775808) (hb : b < 9223372036854775808) : andN (a : Int) (b : Int) = ((a &&& b : Nat) : Int) := by
  unfold andN
  rw [ofInt64,ofInt64,BitVec.toNat_and,BitVec.toNat_ofNat,BitVec.toNat_ofNat,Nat.mod_eq_of_lt (by omega),Nat.mod_eq_of_lt (by omega)]
  have := Nat.and_le_left (n := a) (m := b)
  exact wrap64 (by omega) (by omega)
theorem orN_nat {a b : Nat} (ha : a < 4611686018427387904) (hb : b < 4611686018427387904) : orN (a : Int) (b : Int) = ((a ||| b : Nat) : Int) := by
  unfold orN
  rw [ofInt64,ofInt64,BitVec.toNat_or,BitVec.toNat_ofNat,BitVec.toNat_ofNat,Nat.mod_eq_of_lt (by omega),Nat.mod_eq_of_lt (by omega)]
  have := Nat.or_lt_two_pow (n := 62) (x := a) (y := b) (by omega) (by omega)
  exact wrap64 (by omega) (by omega)
theorem and127 {n : Nat} (h : n < 9223372036854775808) : andN (n : Int) 127 = ((n % 128 : Nat) : Int) := by
  rw [show (127 : Int) = ((127 : Nat) : Int) from rfl,andN_nat h (by omega),show (127 : Nat) = 2 ^ 7 - 1 from rfl,Nat.and_two_pow_sub_one_eq_mod]
theorem or128 {m : Nat} (h : m < 128) : orN (m : Int) 128 = ((m + 128 : Nat) : Int) := by
  rw [show (128 : Int) = ((128 : Nat) : Int) from rfl,orN_nat (by omega) (by omega)]
  have : ∀ m : Nat,m < 128 → m ||| 128 = m + 128 := by decide
  rw [this m h]
theorem shr7 (a : Int) (K : AV → Prop) : binW .shr (.int .i64 a) (.int .u64 7) K = K (.int .i64 (a.fdiv 128)) := by
  simp [binW,IntKind.bits]
def BufQ (m : List UInt8) (r : AV) (O : List AObj) : Prop := ∃ t,r = .ref 0 t 1 m.length ∧ O = [⟨false,t,1,m.map byteRow⟩]
theorem av_rows (T : List Nat) (t : Nat) (m : List UInt8) : AvRows T ⟨false,t,1,m.map byteRow⟩ := by
  intro r j x a hx ha
  obtain ⟨b,_,rfl⟩ : ∃ b,b ∈ m ∧ byteRow b = x := by simpa using List.mem_of_getElem? hx
  have := List.mem_of_getElem? ha
  simp [byteRow] at this
  subst this
  exact .int
theorem call_buf {P : Program} {K : AV → List AObj → Nat → Prop} {f : Nat} {args : List AV} {t n i : Nat} {rows : List (List AV)} {A C : List AObj} {m : List UInt8} {c : Nat} (hf : Con P f (.ref 0 t 1 n :: args) [⟨false,t,1,rows⟩] c fun r O _ => BufQ m r O)
    (k : ∀ t' c',c ≤ c' → K (.ref i t' 1 m.length) (A ++ ⟨false,t',1,m.map byteRow⟩ :: C) c') : CallW P f (.ref i t 1 n :: args) (A ++ ⟨false,t,1,rows⟩ :: C) c K := by
  intro hn hlt
  obtain ⟨h1,h2⟩ := (Views.cons (S := []) (.name (i := i) (j := 0) (tag := t) (w := 1) (len := n)) (Views.refl [] args)).spec
  refine ⟨[⟨false,t,1,rows⟩],[],_,_,(List.singleton_sublist.2 (by simp)),by simp,by simp [tags],h1,h2,hf,fun r O c' hc hq ho hd => ?_⟩
  obtain ⟨t',rfl,rfl⟩ := hq
  have et : ∀ (x : Nat) (rs : List (List AV)),tags (A ++ ⟨false,x,1,rs⟩ :: C) = tags A ++ x :: tags C := fun x rs => by simp [tags]
  rw [et] at hn hlt
  obtain ⟨n1,n2,n3⟩ := List.nodup_append.1 hn
  obtain ⟨n4,n5⟩ := List.nodup_cons.1 n2
  have hnew : ∀ x,x ∈ tags A ∨ x ∈ tags C → x ≠ t' := fun x hx e => by
    subst e
    have hxc : x < c := hlt x (by rcases hx with h | h <;> simp [h])
    have := ho x hxc (by simp [tags])
    simp [tags] at this
    subst this
    rcases hx with h | h
    · exact n3 _ h _ (List.mem_cons_self ..) rfl
    · exact n4 h
  refine ⟨A ++ ⟨false,t',1,m.map byteRow⟩ :: C,.ref i t' 1 m.length,fun o h => ?_,?_,.name,.ref,fun o _ h => ?_,k t' c' hc⟩
  · simp only [List.mem_append,List.mem_cons] at h
    rcases h with h | rfl | h
    · refine .inr ⟨by simp [h],fun hm => ?_⟩
      simp [tags] at hm
      exact n3 _ (mem_tags h) _ (List.mem_cons_self ..) hm
    · exact .inl (by simp)
    · refine .inr ⟨by simp [h],fun hm => ?_⟩
      simp [tags] at hm
      exact n4 (hm ▸ mem_tags h)
  · rw [et]
    refine List.nodup_append.2 ⟨n1,List.nodup_cons.2 ⟨fun h => hnew _ (.inr h) rfl,n5⟩,fun x hx y hy => ?_⟩
    rcases List.mem_cons.1 hy with rfl | hy
    · exact hnew x (.inl hx)
    · exact n3 x hx y (List.mem_cons_of_mem _ hy)
  · simp only [List.mem_singleton] at h
    subst h
    exact av_rows _ _ _
theorem fin_buf {Q : AV → List AObj → Nat → Prop} {t : Nat} {m : List UInt8} {H : List AObj} {c n : Nat} (hn : n = m.length) (hH : H.head? = some ⟨false,t,1,m.map byteRow⟩) (h : ∀ r O,BufQ m r O → Q r O c) : finW Q (.ref 0 t 1 n) H c := by
  cases H with
  | nil => simp at hH
  | cons a l =>
    simp at hH
    subst hH hn
    exact ⟨[],[⟨false,t,1,m.map byteRow⟩],[⟨false,t,1,m.map byteRow⟩],.ref 0 t 1 m.length,by simp,.refl _ _,by simp,by simp [tags],.refl _,h _ _ ⟨t,rfl,rfl⟩⟩
theorem wrap_u8' {n : Nat} (h : n < 256) : IntKind.u8.wrap (n : Int) = ((UInt8.ofNat n).toNat : Int) := by
  rw [IntKind.wrap_u8]
  simp [UInt8.toNat_ofNat']
set_option maxHeartbeats 1000000 in
theorem spec_num {l : List UInt8} {n t : Nat} (hn : n ≤ 1152921504606846976) (hl : l.length + (uv n).length ≤ BIG) (c : Nat) : Con Tryz.prog 98 [.ref 0 t 1 l.length,.int .i64 n] [⟨false,t,1,l.map byteRow⟩] c fun r O _ => BufQ (l ++ uv n) r O := by
  refine con_of c98 (by simp [F98]) ?_
  unfold F98
  unfold BIG at hl
  simp
  refine loop_drop 10 (fun i e H c' => ∃ (t' m : Nat) (pre : List UInt8),e 0 = .ref 0 t' 1 pre.length ∧ e 1 = .int .i64 m ∧ pre ++ uv m = l ++ uv n ∧ m * 128 ^ i ≤ n ∧ H = [⟨false,t',1,pre.map byteRow⟩]) ⟨t,n,l,rfl,rfl,rfl,by simp,rfl⟩ ?_
  intro i e H c' hi ⟨t',m,pre,e0,e1,hp,hm,hH⟩ N hN
  subst hH
  have hmn : m ≤ n := Nat.le_trans (Nat.le_mul_of_pos_right m (Nat.pos_of_ne_zero (by simp))) hm
  have hpl := congrArg List.length hp
  simp only [List.length_append] at hpl
  have hu := uv_pos m
  by_cases h : 127 < m
  · have h' : (127 : Int) < (m : Int) := by omega
    have hi10 : i < 10 := by
      rcases Nat.lt_or_ge i 10 with h1 | h1
      · exact h1
      · have : i = 10 := by omega
        subst this
        omega
    have hb := uv_big (n := m) (by omega)
    have hq : ((m : Int)).fdiv 128 = ((m / 128 : Nat) : Int) := by rw [Int.fdiv_eq_ediv_of_nonneg _ (by omega)]; omega
    have ha := and127 (n := m) (by omega)
    have ho := or128 (m := m % 128) (by omega)
    have hw := wrap_u8' (n := m % 128 + 128) (by omega)
    have hb1 : pre.length + 1 ≤ 140737488355328 := by omega
    have hb2 : pre.length + 1 ≤ mx := by unfold mx; omega
    simp [e0,e1,h',h,intW_andN,intW_orN,ha,ho,hw,shr7,hq,hb1,hb2,-Int.natCast_ediv,-Int.natCast_emod,-Int.natCast_add]
    refine hN _ _ [⟨false,c' + 1,1,(pre ++ [UInt8.ofNat (m % 128 + 128)]).map byteRow⟩] _ hi10 (by simp [byteRow]) ⟨_,m / 128,pre ++ [UInt8.ofNat (m % 128 + 128)],by simp [upd],by simp [upd,-Int.natCast_ediv],?_,?_,rfl⟩
    · rw [← hp,hb]; simp
    · refine Nat.le_trans ?_ hm
      rw [Nat.pow_succ,Nat.mul_comm (128 ^ i) 128,← Nat.mul_assoc]
      exact Nat.mul_le_mul_right _ (Nat.div_mul_le_self m 128)
  · have h' : ¬ (127 : Int) < (m : Int) := by omega
    have hs := uv_small (n := m) (by omega)
    have hw := wrap_u8' (n := m) (by omega)
    have hb1 : pre.length + 1 ≤ 140737488355328 := by omega
    have hb2 : pre.length + 1 ≤ mx := by unfold mx; omega
    simp [e0,e1,h',h,hw,hb1,hb2]
    refine fin_buf (m := l ++ uv n) ?_ ?_ fun _ _ h => h
    · rw [← hp,hs]; simp
    · rw [← hp,hs]; simp [byteRow]
theorem spec_text {l s : List UInt8} {t : Nat} (hs : s.length ≤ 1152921504606846976) (hl : l.length + (eT s).length ≤ BIG) (c : Nat) : Con Tryz.prog 142 [.ref 0 t 1 l.length,.str s] [⟨false,t,1,l.map byteRow⟩] c fun r O _ => BufQ (l ++ eT s) r O := by
  refine con_of c142 (by simp [F142]) ?_
  unfold F142
  simp only [eT,List.length_append] at hl
  simp
  refine call_buf (A := []) (C := []) (spec_num hs (by omega) c) fun t' c' _ => ?_
  unfold BIG at hl
  have hb1 : l.length + (uv s.length).length + s.length ≤ 140737488355328 := by omega
  have hb2 : l.length + (uv s.length).length + s.length ≤ mx := by unfold mx; omega
  have hb3 : l.length + ((uv s.length).length + s.length) ≤ 140737488355328 := by omega
  have hb4 : l.length + ((uv s.length).length + s.length) ≤ mx := by unfold mx; omega
  simp [hb1,hb2,hb3,hb4]
  refine fin_buf (m := l ++ eT s) ?_ ?_ fun _ _ h => h
  · simp [eT]; omega
  · simp [eT]
theorem spec_bool {l : List UInt8} {b : Bool} {t : Nat} (hl : l.length + (eB b).length ≤ BIG) (c : Nat) : Con Tryz.prog 143 [.ref 0 t 1 l.length,.bool b] [⟨false,t,1,l.map byteRow⟩] c fun r O _ => BufQ (l ++ eB b) r O := by
  refine con_of c143 (by simp [F143]) ?_
  unfold F143
  rw [eB_len] at hl
  unfold BIG at hl
  have hb1 : l.length + 1 ≤ 140737488355328 := by omega
  have hb2 : l.length + 1 ≤ mx := by unfold mx; omega
  have he : eB b = [if b then 1 else 0] := by unfold eB; rw [uv_small (by split <;> omega)]; cases b <;> rfl
  cases b
  · simp [hb1,hb2]
    refine fin_buf (m := l ++ eB false) ?_ ?_ fun _ _ h => h
    · rw [he]; simp
    · rw [he]; simp [byteRow]
  · simp [hb1,hb2]
    refine fin_buf (m := l ++ eB true) ?_ ?_ fun _ _ h => h
    · rw [he]; simp
    · rw [he]; simp [byteRow]
set_option maxRecDepth 100000
theorem step_le {α : Type} (f : α → List UInt8) {l : List α} {i : Nat} {x : α} (hx : l[i]? = some x) : ((l.take i).flatMap f).length + (f x).length ≤ (l.flatMap f).length := by
  have h1 := flat_le f l (i + 1)
  rw [flat_step f hx,List.length_append] at h1
  exact h1
theorem eT_ge (s : List UInt8) : s.length ≤ (eT s).length := by simp [eT]
theorem eL_eq {α : Type} (f : α → List UInt8) (l : List α) : (eL f l).length = (uv l.length).length + (l.flatMap f).length := by simp [eL]
theorem eL_all {α : Type} (f : α → List UInt8) (l : List α) : uv l.length ++ (l.take l.length).flatMap f = eL f l := by rw [List.take_length]; rfl
theorem spec_ser {v : TValue} (h0 : 0 ≤ v.Kind) (h3 : v.Kind ≤ 3) (n0 : -1000000000 ≤ v.Num) (n1 : v.Num ≤ 1000000000) (hs : v.Str.length ≤ 1048576) : Fnc Tryz.prog 144 [.agg v.enc] (.str (ser v)) := by
  refine fn_of c144 (by simp [F144]) fun c => ?_
  unfold F144
  have i1 := itoa_le (n := v.Num) (by omega) (by omega)
  have i2 := itoa_le (n := (v.Str.length : Int)) (by omega) (by omega)
  have a1 : (Lib.itoa v.Num).length + 2 ≤ mx := by unfold mx; omega
  have a2 : 2 + (Lib.itoa v.Num).length ≤ mx := by unfold mx; omega
  have a3 : 2 + (Lib.itoa v.Num).length + 1 ≤ mx := by unfold mx; omega
  have a4 : (Lib.itoa v.Num).length + 1 + 1 + 1 ≤ mx := by unfold mx; omega
  have a5 : (Lib.itoa v.Num).length + 1 + 1 ≤ mx := by unfold mx; omega
  by_cases k0 : v.Kind = 0
  · simp [k0]
    exact fin_plain ⟨by simp [ser,k0],rfl⟩
  by_cases k1 : v.Kind = 1
  · simp [k1]
    refine call_fn0 (specFmtI_fn (by omega) (by omega)) .str fun _ _ => ?_
    simp [a1,a2,a3,a4,a5]
    exact fin_plain ⟨by simp [ser,k1],rfl⟩
  by_cases k2 : v.Kind = 2
  · simp [k2]
    refine call_fn0 (specFmtI_fn (by omega) (by omega)) .str fun _ _ => ?_
    simp [a1,a2,a3,a4,a5]
    exact fin_plain ⟨by simp [ser,k2],rfl⟩
  have k3 : v.Kind = 3 := by omega
  simp [k3]
  refine callF_fn0 (specFmtI_fn (by omega) (by omega)) .str fun _ _ => ?_
  generalize hI : Lib.itoa (v.Str.length : Int) = I at i2
  have b1 : I.length + 1 + 1 ≤ mx := by unfold mx; omega
  have b2 : I.length + 1 + 1 + 1 ≤ mx := by unfold mx; omega
  have b3 : I.length + 1 + 1 + 1 + v.Str.length ≤ mx := by unfold mx; omega
  have b4 : I.length + (v.Str.length + 1) + 1 + 1 ≤ mx := by unfold mx; omega
  have b5 : I.length + (v.Str.length + 1) + 1 + 1 + 1 ≤ mx := by unfold mx; omega
  have b6 : 2 + I.length ≤ mx := by unfold mx; omega
  simp [b1,b2,b3,b4,b5,b6]
  exact fin_plain ⟨by simp [ser,k3,hI],rfl⟩
set_option maxHeartbeats 1000000 in
theorem spec_params {l : List UInt8} {ps : SL TParam} {t : Nat} (hl : l.length + (eL eP ps.list).length ≤ BIG) (hn : ps.list.length ≤ 1048576) (c : Nat) : Con Tryz.prog 141 [.ref 0 t 1 l.length,ps.av 2 TParam.enc] [⟨false,t,1,l.map byteRow⟩] c fun r O _ => BufQ (l ++ eL eP ps.list) r O := by
  refine con_of c141 (by simp [F141]) ?_
  unfold F141
  rw [eL_eq] at hl
  have hB : BIG = 1099511627776 := rfl
  simp
  refine call_buf (A := []) (C := []) (spec_num (by omega) (by omega) c) fun t' c' _ => ?_
  simp
  refine loop_drop ps.list.length (fun i e H c' => ∃ t',e 0 = .ref 0 t' 1 (l ++ (uv ps.list.length ++ (ps.list.take i).flatMap eP)).length ∧ e 1 = ps.av 2 TParam.enc ∧ e 5 = .int .i64 i ∧ H = [⟨false,t',1,(l ++ (uv ps.list.length ++ (ps.list.take i).flatMap eP)).map byteRow⟩]) ⟨t',by simp [upd],by simp [upd],by simp [upd],by simp⟩ ?_
  intro i e H c2 hi ⟨t2,e0,e1,e5,hH⟩ N hN
  subst hH
  generalize hm : l ++ (uv ps.list.length ++ (ps.list.take i).flatMap eP) = m at e0
  have hml := congrArg List.length hm
  simp only [List.length_append] at hml
  by_cases h : i < ps.list.length
  · obtain ⟨x,hx⟩ : ∃ x,ps.list[i]? = some x := ⟨_,List.getElem?_eq_getElem h⟩
    have hst := step_le eP hx
    have hep : (eP x).length = (eT x.Name).length + (eB x.Ref).length := by simp [eP]
    have hge := eT_ge x.Name
    simp [e0,e1,e5,h,getW_of hx]
    refine call_buf (A := []) (C := []) (spec_text (s := x.Name) (by omega) (by omega) _) fun t3 c3 _ => ?_
    have hlm : (m ++ eT x.Name).length = m.length + (eT x.Name).length := by simp
    simp [e0,e1,e5,h,getW_of hx]
    rw [← List.length_append,← List.map_append]
    refine call_buf (A := []) (C := []) (spec_bool (b := x.Ref) (by omega) _) fun t4 c4 _ => ?_
    simp [e0,e1,e5]
    refine hN _ _ [_] _ h (List.Sublist.refl _) ⟨t4,by simp [upd,← hm,flat_step eP hx,eP]; omega,by simp [upd,e1],by simp [upd]; exact step64 (by unfold mx; omega) h,by simp [← hm,flat_step eP hx,eP]⟩
  · have hie : i = ps.list.length := by omega
    subst hie
    simp [e0,e1,e5]
    refine fin_buf (m := l ++ eL eP ps.list) ?_ ?_ fun _ _ h => h
    · rw [← hm,eL_all]
    · rw [← hm,eL_all]; rfl
set_option maxRecDepth 100000
theorem call_bufE {P : Program} {K : AV → List AObj → Nat → Prop} {f : Nat} {args : List AV} {t n i : Nat} {rows : List (List AV)} {A C : List AObj} {m : List UInt8} {c : Nat} (hf : Con P f (.ref 0 t 1 n :: args) [⟨false,t,1,rows⟩] c fun r O _ => BufQ m r O)
    (k : ∀ t' c' m',m' = m → K (.ref i t' 1 m'.length) (A ++ ⟨false,t',1,m'.map byteRow⟩ :: C) c') : CallW P f (.ref i t 1 n :: args) (A ++ ⟨false,t,1,rows⟩ :: C) c K :=
  call_buf hf fun t' c' _ => k t' c' m rfl
theorem call_bufF {P : Program} {K : AV → List AObj → Nat → Prop} {f : Nat} {args : List AV} {t n : Nat} {rows : List (List AV)} {C : List AObj} {m : List UInt8} {c : Nat} (hf : Con P f (.ref 0 t 1 n :: args) [⟨false,t,1,rows⟩] c fun r O _ => BufQ m r O)
    (k : ∀ t' c' m',m' = m → K (.ref 0 t' 1 m'.length) (⟨false,t',1,m'.map byteRow⟩ :: C) c') : CallW P f (.ref 0 t 1 n :: args) (⟨false,t,1,rows⟩ :: C) c K :=
  call_bufE (A := []) hf k
theorem call_bufG {P : Program} {K : AV → List AObj → Nat → Prop} {f : Nat} {args : List AV} {t n : Nat} {rows : List (List AV)} {a : AObj} {C : List AObj} {m : List UInt8} {c : Nat} (hf : Con P f (.ref 0 t 1 n :: args) [⟨false,t,1,rows⟩] c fun r O _ => BufQ m r O)
    (k : ∀ t' c' m',m' = m → K (.ref 1 t' 1 m'.length) (a :: ⟨false,t',1,m'.map byteRow⟩ :: C) c') : CallW P f (.ref 1 t 1 n :: args) (a :: ⟨false,t,1,rows⟩ :: C) c K :=
  call_bufE (A := [a]) hf k
theorem spec_numI {l : List UInt8} {n : Int} {t : Nat} (h0 : 0 ≤ n) (hn : n ≤ 1000000000000) (hl : l.length + (eN n).length ≤ BIG) (c : Nat) : Con Tryz.prog 98 [.ref 0 t 1 l.length,.int .i64 n] [⟨false,t,1,l.map byteRow⟩] c fun r O _ => BufQ (l ++ eN n) r O := by
  obtain ⟨m,rfl⟩ : ∃ m : Nat,n = (m : Int) := ⟨n.toNat,by omega⟩
  exact spec_num (n := m) (by omega) hl c
set_option maxHeartbeats 4000000 in
theorem spec_func {l : List UInt8} {f : TFunc} {t : Nat} (hN : ∀ x,x ∈ f.Code.list → InsN x) (hl : l.length + (eFunc f).length ≤ BIG) (hz : f.sz ≤ 1048576) (c : Nat) : Con Tryz.prog 99 [.ref 0 t 1 l.length,.agg f.enc] [⟨false,t,1,l.map byteRow⟩] c fun r O _ => BufQ (l ++ eFunc f) r O := by
  refine con_of c99 (by simp [F99]) ?_
  unfold F99
  have hB : BIG = 1099511627776 := rfl
  have hlen : (eFunc f).length = (eT f.Name).length + ((eL eP f.Params.list).length + ((eL eP f.Uses.list).length + ((eL eT f.Slots.list).length + ((eB f.Gen).length + (eL eIns f.Code.list).length)))) := by simp [eFunc]
  have hz2 : f.sz = f.Name.length + (f.Params.list.length + szL TParam.sz f.Params.list) + (f.Uses.list.length + szL TParam.sz f.Uses.list) + (f.Slots.list.length + szL List.length f.Slots.list) + (f.Code.list.length + szL TIns.sz f.Code.list) := rfl
  have s4 := eL_eq eT f.Slots.list
  have s5 := eL_eq eIns f.Code.list
  simp
  refine call_bufF (spec_text (s := f.Name) (by omega) (by omega) _) fun t1 c1 m1 hm1 => ?_
  have hq1 := congrArg List.length hm1; simp only [List.length_append] at hq1
  simp
  refine call_bufF (spec_params (ps := f.Params) (by omega) (by omega) _) fun t2 c2 m2 hm2 => ?_
  have hq2 := congrArg List.length hm2; simp only [List.length_append] at hq2
  simp
  refine call_bufF (spec_params (ps := f.Uses) (by omega) (by omega) _) fun t3 c3 m3 hm3 => ?_
  have hq3 := congrArg List.length hm3; simp only [List.length_append] at hq3
  simp
  refine call_bufF (spec_num (n := f.Slots.list.length) (by omega) (by omega) _) fun t4 c4 m4 hm4 => ?_
  have hq4 := congrArg List.length hm4; simp only [List.length_append] at hq4
  simp
  refine loop_drop f.Slots.list.length (fun i e H c' => ∃ t' m,m = m4 ++ (f.Slots.list.take i).flatMap eT ∧ e 0 = .ref 0 t' 1 m.length ∧ e 3 = .ptr 1 c 6 0 0 ∧ e 5 = .int .i64 i ∧ H = [⟨false,t',1,m.map byteRow⟩,⟨false,c,6,[f.enc]⟩]) ⟨t4,m4,by simp,by simp [upd],by simp [upd],by simp [upd],rfl⟩ ?_
  intro i e H c5 hi ⟨t5,m5,hm5,e0,e3,e5,hH⟩ N hN2
  subst hH
  have hq5 := congrArg List.length hm5; simp only [List.length_append] at hq5
  by_cases h : i < f.Slots.list.length
  · obtain ⟨x,hx⟩ : ∃ x,f.Slots.list[i]? = some x := ⟨_,List.getElem?_eq_getElem h⟩
    have hst := step_le eT hx
    have hge := eT_ge x
    simp [e0,e3,e5,h,getW_of hx]
    refine call_bufF (spec_text (s := x) (by omega) (by omega) _) fun t6 c6 m6 hm6 => ?_
    simp [e0,e3,e5]
    exact hN2 _ _ _ _ h (List.Sublist.refl _) ⟨t6,m6,by rw [hm6,hm5,flat_step eT hx,List.append_assoc],by simp [upd],by simp [upd,e3],by simp [upd]; exact step64 (by unfold mx; omega) h,rfl⟩
  have hie : i = f.Slots.list.length := by omega
  subst hie
  rw [List.take_length] at hm5 hq5
  simp [e0,e3,e5]
  refine call_bufF (spec_bool (b := f.Gen) (by omega) _) fun t6 c6 m6 hm6 => ?_
  have hq6 := congrArg List.length hm6; simp only [List.length_append] at hq6
  simp [e3]
  refine call_bufF (spec_num (n := f.Code.list.length) (by omega) (by omega) _) fun t7 c7 m7 hm7 => ?_
  have hq7 := congrArg List.length hm7; simp only [List.length_append] at hq7
  simp
  refine loop_drop f.Code.list.length (fun i e H c' => ∃ t' m,m = m7 ++ (f.Code.list.take i).flatMap eIns ∧ e 0 = .ref 0 t' 1 m.length ∧ e 3 = .ptr 1 c 6 0 0 ∧ e 6 = .int .i64 i ∧ H = [⟨false,t',1,m.map byteRow⟩,⟨false,c,6,[f.enc]⟩]) ⟨t7,m7,by simp,by simp [upd],by simp [upd,e3],by simp [upd],rfl⟩ ?_
  clear e0 e3 e5 e
  intro i e H c8 hi ⟨t8,m8,hm8,e0,e3,e6,hH⟩ N hN2
  subst hH
  have hq8 := congrArg List.length hm8; simp only [List.length_append] at hq8
  by_cases h : i < f.Code.list.length
  · obtain ⟨x,hx⟩ : ∃ x,f.Code.list[i]? = some x := ⟨_,List.getElem?_eq_getElem h⟩
    have hst := step_le eIns hx
    obtain ⟨o0,o1,a0,a1,b0,b1⟩ := hN x (List.mem_of_getElem? hx)
    have hln : (eIns x).length = (eN x.Op).length + ((eN x.A).length + ((eN x.B).length + ((eT x.S).length + (eT x.T).length))) := by simp [eIns]
    have g1 := eT_ge x.S
    have g2 := eT_ge x.T
    simp [e0,e3,e6,h,getW_of hx]
    refine call_bufF (spec_numI (n := x.Op) o0 (by omega) (by omega) _) fun t9 c9 m9 hm9 => ?_
    have hq9 := congrArg List.length hm9; simp only [List.length_append] at hq9
    simp
    refine call_bufF (spec_numI (n := x.A) a0 (by omega) (by omega) _) fun t10 c10 m10 hm10 => ?_
    have hq10 := congrArg List.length hm10; simp only [List.length_append] at hq10
    simp
    refine call_bufF (spec_numI (n := x.B) b0 (by omega) (by omega) _) fun t11 c11 m11 hm11 => ?_
    have hq11 := congrArg List.length hm11; simp only [List.length_append] at hq11
    simp
    refine call_bufF (spec_text (s := x.S) (by omega) (by omega) _) fun t12 c12 m12 hm12 => ?_
    have hq12 := congrArg List.length hm12; simp only [List.length_append] at hq12
    simp
    refine call_bufF (spec_text (s := x.T) (by omega) (by omega) _) fun t13 c13 m13 hm13 => ?_
    simp [e3,e6]
    exact hN2 _ _ [⟨false,t13,1,m13.map byteRow⟩,⟨false,c,6,[f.enc]⟩] _ h (by simp) ⟨t13,m13,by rw [hm13,hm12,hm11,hm10,hm9,hm8,flat_step eIns hx]; simp [eIns],by simp [upd],by simp [upd,e3],by simp [upd]; exact step64 (by unfold mx; omega) h,rfl⟩
  have hie : i = f.Code.list.length := by omega
  subst hie
  rw [List.take_length] at hm8 hq8
  simp [e0,e3,e6]
  have hfin : m8 = l ++ eFunc f := by rw [hm8,hm7,hm6,hm5,hm4,hm3,hm2,hm1]; simp [eFunc,eL]
  refine fin_buf (m := l ++ eFunc f) ?_ ?_ fun _ _ h => h
  · rw [hfin]
  · rw [hfin]; rfl
set_option maxHeartbeats 4000000 in
theorem spec_class {l : List UInt8} {f : TClass} {t : Nat} (hF : ∀ x,x ∈ f.Fields.list → FieldOk x) (hl : l.length + (eClass f).length ≤ BIG) (hz : f.sz ≤ 1048576) (c : Nat) : Con Tryz.prog 100 [.ref 0 t 1 l.length,.agg f.enc] [⟨false,t,1,l.map byteRow⟩] c fun r O _ => BufQ (l ++ eClass f) r O := by
  refine con_of c100 (by simp [F100]) ?_
  unfold F100
  have hB : BIG = 1099511627776 := rfl
  have hlen : (eClass f).length = (eT f.Name).length + ((eT f.Parent).length + ((eL eField f.Fields.list).length + (eL eMet f.Methods.list).length)) := by simp [eClass]
  have hz2 : f.sz = f.Name.length + f.Parent.length + (f.Fields.list.length + szL TField.sz f.Fields.list) + (f.Methods.list.length + szL TMethod.sz f.Methods.list) := rfl
  have s4 := eL_eq eField f.Fields.list
  have s5 := eL_eq eMet f.Methods.list
  simp
  refine call_bufF (spec_text (s := f.Name) (by omega) (by omega) _) fun t1 c1 m1 hm1 => ?_
  have hq1 := congrArg List.length hm1; simp only [List.length_append] at hq1
  simp
  refine call_bufF (spec_text (s := f.Parent) (by omega) (by omega) _) fun t2 c2 m2 hm2 => ?_
  have hq2 := congrArg List.length hm2; simp only [List.length_append] at hq2
  simp
  refine call_bufF (spec_num (n := f.Fields.list.length) (by omega) (by omega) _) fun t4 c4 m4 hm4 => ?_
  have hq4 := congrArg List.length hm4; simp only [List.length_append] at hq4
  simp
  refine loop_drop f.Fields.list.length (fun i e H c' => ∃ t' m,m = m4 ++ (f.Fields.list.take i).flatMap eField ∧ e 0 = .ref 0 t' 1 m.length ∧ e 3 = .ptr 1 c 4 0 0 ∧ e 5 = .int .i64 i ∧ H = [⟨false,t',1,m.map byteRow⟩,⟨false,c,4,[f.enc]⟩]) ⟨t4,m4,by simp,by simp [upd],by simp [upd],by simp [upd],rfl⟩ ?_
  intro i e H c5 hi ⟨t5,m5,hm5,e0,e3,e5,hH⟩ N hN2
  subst hH
  have hq5 := congrArg List.length hm5; simp only [List.length_append] at hq5
  by_cases h : i < f.Fields.list.length
  · obtain ⟨x,hx⟩ : ∃ x,f.Fields.list[i]? = some x := ⟨_,List.getElem?_eq_getElem h⟩
    have hxm := List.mem_of_getElem? hx
    have hst := step_le eField hx
    have hfo := hF x hxm
    obtain ⟨fn0,fn1,fk0,fk3⟩ := fld_num hfo
    have hxz := fdsz hz hxm
    have hsl : x.Init.Str.length ≤ x.Init.sz := by rw [TValue.sz_eq]; omega
    have hxz2 : x.sz = x.Name.length + x.Owner.length + x.Init.sz := rfl
    have hln : (eField x).length = (eT x.Name).length + ((eT x.Owner).length + ((eB x.Private).length + (eT (ser x.Init)).length)) := by simp [eField]
    have g3 := eT_ge (ser x.Init)
    simp [e0,e3,e5,h,getW_of hx]
    refine call_bufF (spec_text (s := x.Name) (by omega) (by omega) _) fun t9 c9 m9 hm9 => ?_
    have hq9 := congrArg List.length hm9; simp only [List.length_append] at hq9
    simp
    refine call_bufF (spec_text (s := x.Owner) (by omega) (by omega) _) fun t10 c10 m10 hm10 => ?_
    have hq10 := congrArg List.length hm10; simp only [List.length_append] at hq10
    simp
    refine call_bufF (spec_bool (b := x.Private) (by omega) _) fun t11 c11 m11 hm11 => ?_
    have hq11 := congrArg List.length hm11; simp only [List.length_append] at hq11
    simp
    refine call_fn0 (spec_ser fk0 fk3 fn0 fn1 (by omega)) .str fun c12 _ => ?_
    simp
    refine call_bufF (spec_text (s := ser x.Init) (by omega) (by omega) _) fun t13 c13 m13 hm13 => ?_
    simp [e3,e5]
    exact hN2 _ _ [⟨false,t13,1,m13.map byteRow⟩,⟨false,c,4,[f.enc]⟩] _ h (by simp) ⟨t13,m13,by rw [hm13,hm11,hm10,hm9,hm5,flat_step eField hx]; simp [eField],by simp [upd],by simp [upd,e3],by simp [upd]; exact step64 (by unfold mx; omega) h,rfl⟩
  have hie : i = f.Fields.list.length := by omega
  subst hie
  rw [List.take_length] at hm5 hq5
  simp [e0,e3,e5]
  refine call_bufF (spec_num (n := f.Methods.list.length) (by omega) (by omega) _) fun t7 c7 m7 hm7 => ?_
  have hq7 := congrArg List.length hm7; simp only [List.length_append] at hq7
  simp
  refine loop_drop f.Methods.list.length (fun i e H c' => ∃ t' m,m = m7 ++ (f.Methods.list.take i).flatMap eMet ∧ e 0 = .ref 0 t' 1 m.length ∧ e 3 = .ptr 1 c 4 0 0 ∧ e 7 = .int .i64 i ∧ H = [⟨false,t',1,m.map byteRow⟩,⟨false,c,4,[f.enc]⟩]) ⟨t7,m7,by simp,by simp [upd],by simp [upd,e3],by simp [upd],rfl⟩ ?_
  clear e0 e3 e5 e
  intro i e H c8 hi ⟨t8,m8,hm8,e0,e3,e7,hH⟩ N hN2
  subst hH
  have hq8 := congrArg List.length hm8; simp only [List.length_append] at hq8
  by_cases h : i < f.Methods.list.length
  · obtain ⟨x,hx⟩ : ∃ x,f.Methods.list[i]? = some x := ⟨_,List.getElem?_eq_getElem h⟩
    have hxm := List.mem_of_getElem? hx
    have hst := step_le eMet hx
    have hxz := mtsz hz hxm
    have hxz2 : x.sz = x.Name.length + x.Owner.length + x.From.length := rfl
    have hln : (eMet x).length = (eT x.Name).length + ((eT x.Owner).length + ((eT x.From).length + ((eB x.Private).length + (eB x.Static).length))) := by simp [eMet]
    simp [e0,e3,e7,h,getW_of hx]
    refine call_bufF (spec_text (s := x.Name) (by omega) (by omega) _) fun t9 c9 m9 hm9 => ?_
    have hq9 := congrArg List.length hm9; simp only [List.length_append] at hq9
    simp
    refine call_bufF (spec_text (s := x.Owner) (by omega) (by omega) _) fun t10 c10 m10 hm10 => ?_
    have hq10 := congrArg List.length hm10; simp only [List.length_append] at hq10
    simp
    refine call_bufF (spec_text (s := x.From) (by omega) (by omega) _) fun t11 c11 m11 hm11 => ?_
    have hq11 := congrArg List.length hm11; simp only [List.length_append] at hq11
    simp
    refine call_bufF (spec_bool (b := x.Private) (by omega) _) fun t12 c12 m12 hm12 => ?_
    have hq12 := congrArg List.length hm12; simp only [List.length_append] at hq12
    simp
    refine call_bufF (spec_bool (b := x.Static) (by omega) _) fun t13 c13 m13 hm13 => ?_
    simp [e3,e7]
    exact hN2 _ _ [⟨false,t13,1,m13.map byteRow⟩,⟨false,c,4,[f.enc]⟩] _ h (by simp) ⟨t13,m13,by rw [hm13,hm12,hm11,hm10,hm9,hm8,flat_step eMet hx]; simp [eMet],by simp [upd],by simp [upd,e3],by simp [upd]; exact step64 (by unfold mx; omega) h,rfl⟩
  have hie : i = f.Methods.list.length := by omega
  subst hie
  rw [List.take_length] at hm8 hq8
  simp [e0,e3,e7]
  have hfin : m8 = l ++ eClass f := by rw [hm8,hm7,hm5,hm4,hm2,hm1]; simp [eClass,eL]
  refine fin_buf (m := l ++ eClass f) ?_ ?_ fun _ _ h => h
  · rw [hfin]
  · rw [hfin]; rfl
set_option maxHeartbeats 4000000 in
theorem spec_encode {p : TProgram} (hok : ProgOk p) (hz : p.sz ≤ 1048576) (c : Nat) : Con Tryz.prog 52 [.agg p.enc] [] c fun r O _ => BufQ (eProg p) r O := by
  refine con_of c52 (by simp [F52]) ?_
  unfold F52
  have hB : BIG = 1099511627776 := rfl
  have hpl := eProg_len hok hz
  have hlen : (eProg p).length = (eL eFunc p.Funcs.list).length + (eL eClass p.Classes.list).length := by simp [eProg]
  have s4 := eL_eq eFunc p.Funcs.list
  have s5 := eL_eq eClass p.Classes.list
  have hz2 : p.sz = (p.Funcs.list.length + szL TFunc.sz p.Funcs.list) + (p.Classes.list.length + szL TClass.sz p.Classes.list) := rfl
  simp
  refine call_bufG (m := uv p.Funcs.list.length) (by have := spec_num (l := []) (t := c + 1) (n := p.Funcs.list.length) (by omega) (by simp; omega) (c + 1 + 1); simpa using this) fun t1 c1 m1 hm1 => ?_
  have hq1 := congrArg List.length hm1
  simp
  refine loop_drop p.Funcs.list.length (fun i e H c' => ∃ t' m,m = m1 ++ (p.Funcs.list.take i).flatMap eFunc ∧ e 3 = .ref 1 t' 1 m.length ∧ e 1 = .ptr 0 c 2 0 0 ∧ e 4 = .int .i64 i ∧ H = [⟨false,c,2,[p.enc]⟩,⟨false,t',1,m.map byteRow⟩]) ⟨t1,m1,by simp,by simp [upd],by simp [upd],by simp [upd],rfl⟩ ?_
  intro i e H c5 hi ⟨t5,m5,hm5,e3,e1,e4,hH⟩ N hN2
  subst hH
  have hq5 := congrArg List.length hm5; simp only [List.length_append] at hq5
  by_cases h : i < p.Funcs.list.length
  · obtain ⟨x,hx⟩ : ∃ x,p.Funcs.list[i]? = some x := ⟨_,List.getElem?_eq_getElem h⟩
    have hxm := List.mem_of_getElem? hx
    have hst := step_le eFunc hx
    simp [e3,e1,e4,h,getW_of hx]
    refine call_bufG (spec_func (f := x) (funcN (hok.fok x hxm)) (by omega) (fsz hz hxm) _) fun t6 c6 m6 hm6 => ?_
    simp [e1,e3,e4]
    exact hN2 _ _ _ _ h (List.Sublist.refl _) ⟨t6,m6,by rw [hm6,hm5,flat_step eFunc hx,List.append_assoc],by simp [upd],by simp [upd,e1],by simp [upd]; exact step64 (by unfold mx; omega) h,rfl⟩
  have hie : i = p.Funcs.list.length := by omega
  subst hie
  rw [List.take_length] at hm5 hq5
  simp [e3,e1,e4]
  refine call_bufG (spec_num (n := p.Classes.list.length) (by omega) (by omega) _) fun t7 c7 m7 hm7 => ?_
  have hq7 := congrArg List.length hm7; simp only [List.length_append] at hq7
  simp
  refine loop_drop p.Classes.list.length (fun i e H c' => ∃ t' m,m = m7 ++ (p.Classes.list.take i).flatMap eClass ∧ e 3 = .ref 1 t' 1 m.length ∧ e 1 = .ptr 0 c 2 0 0 ∧ e 5 = .int .i64 i ∧ H = [⟨false,c,2,[p.enc]⟩,⟨false,t',1,m.map byteRow⟩]) ⟨t7,m7,by simp,by simp [upd],by simp [upd,e1],by simp [upd],rfl⟩ ?_
  clear e3 e1 e4 e
  intro i e H c8 hi ⟨t8,m8,hm8,e3,e1,e5,hH⟩ N hN2
  subst hH
  have hq8 := congrArg List.length hm8; simp only [List.length_append] at hq8
  by_cases h : i < p.Classes.list.length
  · obtain ⟨x,hx⟩ : ∃ x,p.Classes.list[i]? = some x := ⟨_,List.getElem?_eq_getElem h⟩
    have hxm := List.mem_of_getElem? hx
    have hst := step_le eClass hx
    simp [e3,e1,e5,h,getW_of hx]
    refine call_bufG (spec_class (f := x) (hok.cok x hxm).fs (by omega) (csz hz hxm) _) fun t6 c6 m6 hm6 => ?_
    simp [e1,e3,e5]
    exact hN2 _ _ _ _ h (List.Sublist.refl _) ⟨t6,m6,by rw [hm6,hm8,flat_step eClass hx,List.append_assoc],by simp [upd],by simp [upd,e1],by simp [upd]; exact step64 (by unfold mx; omega) h,rfl⟩
  have hie : i = p.Classes.list.length := by omega
  subst hie
  rw [List.take_length] at hm8 hq8
  simp [e3,e1,e5]
  have hfin : m8 = eProg p := by rw [hm8,hm7,hm5,hm1]; simp [eProg,eL]
  subst hfin
  exact ⟨[],[⟨false,t8,1,(eProg p).map byteRow⟩],[⟨false,t8,1,(eProg p).map byteRow⟩],.ref 0 t8 1 (eProg p).length,by simp,.refl _ _,by simp,by simp [tags],.name,t8,rfl,rfl⟩
end A
end Go.Proofs.YtgalkppgeoknaaaGreatDoor
