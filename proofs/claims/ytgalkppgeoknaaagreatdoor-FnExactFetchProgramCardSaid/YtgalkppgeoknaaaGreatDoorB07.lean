import Derived.Lib.AtoiAllCases
import Derived.Lib.ItoaMem
import Derived.Shelf.LaysM
import Derived.Shelf.Strconv.Itoa3
import Derived.Test.YtgalkppgeoknaaaGreatDoorProg
import Derived.Below
import Derived.Shelf.LaysC
import Derived.Shelf.Strconv.AtoiAll
import Derived.Test.YtgalkppgeoknaaaGreatDoorB06

/-
  Heights: giving a height to a place, of the program (a function value) and of the reference. No condition.
-/
set_option linter.unusedVariables false
set_option linter.unusedSimpArgs false
namespace Go.Proofs.YtgalkppgeoknaaaGreatDoor
namespace A
set_option linter.unusedVariables false
set_option linter.unusedSimpArgs false
set_option maxRecDepth 100000
def hObj (b0 : AObj) (tA t4 tW t7 : Nat) (hs : List Int) (rows : List (List AV)) (k : Nat) (x5 : AObj) : List AObj :=
  [b0,⟨false,tA,1,hs.map encI⟩,⟨false,t4,1,[[.ref 1 tA 1 hs.length]]⟩,⟨false,tW,1,rows⟩,⟨false,t7,1,[[.ref 3 tW 1 k]]⟩,x5]
def encN (i : Nat) : List AV := [.int .i64 (i : Int)]
def GaveQ (b0 : AObj) (tA t4 tW t7 : Nat) (hs : List Int) (rows : List (List AV)) (k : Nat) (x5 : AObj) (j : Nat) (w : Int) (r : AV) (O : List AObj) : Prop :=
  (¬ giveOk hs j w ∧ r = .bool false ∧ O = []) ∨ (giveOk hs j w ∧ r = .bool true ∧
    (((∃ u,hs[j]? = some u ∧ u < 0) ∧ ∃ tW',O = hObj b0 tA t4 tW' t7 (hs.set j w) (rows.take k ++ [encN j]) (k + 1) x5) ∨ (hs[j]? = some w ∧ 0 ≤ w ∧ O = hObj b0 tA t4 tW t7 hs rows k x5)))
theorem map_setI (hs : List Int) (j : Nat) (w : Int) : (hs.set j w).map encI = (hs.map encI).set j [.int .i64 w] := by rw [List.map_set]; rfl
theorem give_con {b0 x5 : AObj} {tA t4 tW t7 : Nat} {hs : List Int} {rows : List (List AV)} {k j c : Nat} {w : Int} (hk : k ≤ rows.length) (hkm : k ≤ 16777216) :
    Con Tryz.prog 183 [.int .i64 (j : Int),.int .i64 w,.ptr 2 t4 1 0 0,.ptr 4 t7 1 0 0] (hObj b0 tA t4 tW t7 hs rows k x5) c fun r O _ => GaveQ b0 tA t4 tW t7 hs rows k x5 j w r O := by
  refine con_of c183 (by simp [F183]) ?_
  unfold F183 hObj
  by_cases h1 : j < hs.length
  · have hx : hs[j]? = some hs[j] := List.getElem?_eq_getElem h1
    generalize hs[j] = u at hx
    have h1' : ¬ ((hs.length : Int) ≤ j) := by omega
    simp [h1']
    refine call_fn0 (inRange_fn _ _ _) .bool fun c1 _ => ?_
    cases hr : inR w 0 500
    · simp
      exact fin_plain (.inl ⟨fun h => by rw [h.1] at hr; simp at hr,rfl,rfl⟩)
    · simp [h1,getW_of hx]
      by_cases h2 : 0 ≤ u
      · by_cases h3 : u = w
        · subst h3
          have h4 : ¬ u < 0 := by omega
          simp [h1,getW_of hx,h2,h4]
          exact fin_all (.inr ⟨⟨hr,u,hx,.inr rfl⟩,rfl,.inr ⟨hx,h2,rfl⟩⟩)
        · simp [h1,getW_of hx,h2,h3]
          exact fin_plain (.inl ⟨fun ⟨_,v,h4,h5⟩ => by rw [hx] at h4; cases h4; omega,rfl,rfl⟩)
      · have h3 : u < 0 := by omega
        simp [h1,getW_of hx,h2,h3]
        show k ≤ rows.length ∧ _
        refine ⟨hk,?_⟩
        refine ⟨by omega,by unfold mx; omega,fin_sub (Hk := hObj b0 tA t4 (c1 + 1) t7 (hs.set j w) (rows.take k ++ [encN j]) (k + 1) x5) ?_ (.refl _) (.inr ⟨⟨hr,u,hx,.inl h3⟩,rfl,.inl ⟨⟨u,hx,h3⟩,c1 + 1,rfl⟩⟩)⟩
        unfold hObj
        rw [map_setI,List.length_set]
        exact List.sublist_append_left [_,_,_,_,_,_] [_]
  · have h1' : ((hs.length : Int) ≤ j) := by omega
    simp [h1']
    exact fin_plain (.inl ⟨fun ⟨_,v,h4,h5⟩ => h1 (List.getElem?_eq_some_iff.1 h4).1,rfl,rfl⟩)
def GaveS (tA : Nat) (hs : List Int) (j : Nat) (w : Int) (r : AV) (O : List AObj) : Prop :=
  (¬ giveOk hs j w ∧ r = .tup [.bool false,.bool false] ∧ O = [⟨false,tA,1,hs.map encI⟩]) ∨ (giveOk hs j w ∧ (∃ u,hs[j]? = some u ∧ r = .tup [.bool (decide (u < 0)),.bool true]) ∧ O = [⟨false,tA,1,(hs.set j w).map encI⟩])
theorem give_spec {tA : Nat} {hs : List Int} {j c : Nat} {w : Int} (hn : hs.length ≤ mx) :
    Con Tryz.prog 172 [.ref 0 tA 1 hs.length,.int .i64 (j : Int),.int .i64 w] [⟨false,tA,1,hs.map encI⟩] c fun r O _ => GaveS tA hs j w r O := by
  refine con_of c172 (by simp [F172]) ?_
  unfold F172
  by_cases h1 : j < hs.length
  · have hx : hs[j]? = some hs[j] := List.getElem?_eq_getElem h1
    generalize hs[j] = u at hx
    have h1' : ¬ ((hs.length : Int) ≤ j) := by omega
    simp [h1']
    refine call_fn0 (l1In_fn _ _ _) .bool fun _ _ => ?_
    cases hr : inR w 0 500
    · simp
      exact fin_all (.inl ⟨fun h => by rw [h.1] at hr; simp at hr,rfl,rfl⟩)
    · simp [h1,getW_of hx]
      by_cases h2 : 0 ≤ u
      · by_cases h3 : u = w
        · subst h3
          have h4 : ¬ u < 0 := by omega
          simp [h1,getW_of hx,h2,h4]
          refine fin_all (.inr ⟨⟨hr,u,hx,.inr rfl⟩,⟨u,hx,by simp [h4]⟩,by rw [map_setI]⟩)
        · simp [h1,getW_of hx,h2,h3]
          exact fin_all (.inl ⟨fun ⟨_,v,h4,h5⟩ => by rw [hx] at h4; cases h4; omega,rfl,rfl⟩)
      · have h3 : u < 0 := by omega
        simp [h1,getW_of hx,h2,h3]
        refine fin_all (.inr ⟨⟨hr,u,hx,.inl h3⟩,⟨u,hx,by simp [h3]⟩,by rw [map_setI]⟩)
  · have h1' : ((hs.length : Int) ≤ j) := by omega
    simp [h1']
    exact fin_all (.inl ⟨fun ⟨_,v,h4,h5⟩ => h1 (List.getElem?_eq_some_iff.1 h4).1,rfl,rfl⟩)
set_option maxRecDepth 100000
structure ISt (x : TIns) (slots size : Int) (c : Nat) (a b s : Bool) (e : Env) (H : List AObj) : Prop where
  e1 : e 1 = .int .i64 slots
  e2 : e 2 = .int .i64 size
  e3 : e 3 = .ptr 0 c 5 0 0
  e7 : e 7 = .bool a
  e8 : e 8 = .bool b
  e9 : e 9 = .bool s
  hH : H = [⟨false,c,5,[x.enc]⟩]
def sA (x : TIns) : Bool := if x.Op = 2 then inR x.A 0 1000000000 else if x.Op = 4 ∨ x.Op = 11 then inR x.A 0 2 else if x.Op = 12 then inR x.A 1 15 else decide (x.A = 0)
def sS (x : TIns) : Bool := if textOp x.Op = 2 then good x.S else (decide (x.S = []) || decide (textOp x.Op = 1))
theorem opS_eq (x : TIns) : opS x = if x.Op = 3 then decide (x.S.length ≤ 400) else sS x := by
  unfold opS sS textOp
  by_cases h0 : x.Op = 3
  · simp [h0]
  by_cases h1 : x.Op ∈ ([31,55,56,35,36] : List Int)
  · have h2 : x.Op ∈ ([3,31,55,56,35,36] : List Int) := List.mem_cons_of_mem _ h1
    rw [if_pos h1,if_neg h0,if_pos h2]
    simp
  · have h2 : ¬ x.Op ∈ ([3,31,55,56,35,36] : List Int) := by
      intro h; rcases List.mem_cons.1 h with h | h
      · exact h0 h
      · exact h1 h
    rw [if_neg h1,if_neg h0,if_neg h0,if_neg h2]
    by_cases h3 : x.Op ∈ ([7,8,17,19,20,22,23,25,26,32,34,39,44] : List Int)
    · rw [if_pos h3,if_pos h3]; rfl
    · rw [if_neg h3,if_neg h3]; simp
theorem slot_cases {op : Int} (h : slotOp op = true) : op = 5 ∨ op = 6 ∨ op = 18 ∨ op = 21 ∨ op = 24 ∨ op = 26 ∨ op = 38 := by
  unfold slotOp at h
  by_cases h1 : op ∈ ([5,6,18,21,24,26,38] : List Int)
  · simpa using h1
  · rw [if_neg h1] at h; simp at h
theorem target_cases {op : Int} (h : hasTarget op = true) : op = 27 ∨ op = 28 ∨ op = 29 ∨ op = 44 ∨ op = 45 ∨ op = 49 ∨ op = 52 := by
  unfold hasTarget at h
  split at h
  next h1 => simpa using h1
  next h1 => simp at h
theorem opA_slot {x : TIns} {slots size : Int} (h : slotOp x.Op = true) : opA x slots size = (decide (0 ≤ x.A) && decide (x.A < slots)) := by
  unfold opA
  have := slot_cases h
  rw [if_neg (by omega),if_neg (by omega),if_neg (by omega),if_pos h]
theorem opA_target {x : TIns} {slots size : Int} (h : hasTarget x.Op = true) : opA x slots size = (decide (0 ≤ x.A) && decide (x.A < size)) := by
  unfold opA
  have := target_cases h
  rw [if_neg (by omega),if_neg (by omega),if_neg (by omega),if_neg fun h2 => by have := slot_cases h2; omega,if_pos h]
theorem opA_none {x : TIns} {slots size : Int} (h : slotOp x.Op = false) (h2 : hasTarget x.Op = false) : opA x slots size = sA x := by
  unfold opA sA
  simp [h,h2]
theorem spec_isIns {x : TIns} (hS : x.S.length ≤ mx) (hT : x.T.length ≤ mx) (slots size : Int) : Fnc Tryz.prog 169 [.agg x.enc,.int .i64 slots,.int .i64 size] (.bool (isIns x slots size)) := by
  refine fn_of c169 (by simp [F169]) fun c => ?_
  unfold F169
  refine seq_cut (fun e H c' => e 1 = .int .i64 slots ∧ e 2 = .int .i64 size ∧ e 3 = .ptr 0 c 5 0 0 ∧ H = [⟨false,c,5,[x.enc]⟩]) ?_ ?_
  rotate_left
  · intro K hK
    simp
    exact hK _ _ _ ⟨rfl,rfl,rfl,rfl⟩
  intro e H c1 ⟨e1,e2,e3,hH⟩
  subst hH
  refine seq_cut (fun e H c' => e 1 = .int .i64 slots ∧ e 2 = .int .i64 size ∧ e 3 = .ptr 0 c 5 0 0 ∧ e 7 = .bool (decide (x.A = 0)) ∧ H = [⟨false,c,5,[x.enc]⟩]) ?_ ?_
  rotate_left
  · intro K hK
    simp [e3]
    exact hK _ _ _ ⟨by simp [upd,e1],by simp [upd,e2],by simp [upd,e3],by simp [upd],rfl⟩
  clear e1 e2 e3 e
  intro e H c1 ⟨e1,e2,e3,e7,hH⟩
  subst hH
  refine seq_cut (fun e H c' => e 1 = .int .i64 slots ∧ e 2 = .int .i64 size ∧ e 3 = .ptr 0 c 5 0 0 ∧ e 7 = .bool (decide (x.A = 0)) ∧ e 8 = .bool (decide (x.B = 0)) ∧ H = [⟨false,c,5,[x.enc]⟩]) ?_ ?_
  rotate_left
  · intro K hK
    simp [e3]
    exact hK _ _ _ ⟨by simp [upd,e1],by simp [upd,e2],by simp [upd,e3],by simp [upd,e7],by simp [upd],rfl⟩
  clear e1 e2 e3 e7 e
  intro e H c1 ⟨e1,e2,e3,e7,e8,hH⟩
  subst hH
  refine seq_cut (fun e H c' => ISt x slots size c (decide (x.A = 0)) (decide (x.B = 0)) (decide (x.S = []) || decide (textOp x.Op = 1) || decide (textOp x.Op = 2)) e H) ?_ ?_
  rotate_left
  · intro K hK
    by_cases h1 : x.S = []
    · simp [e3,h1]
      exact hK _ _ _ ⟨by simp [upd,e1],by simp [upd,e2],by simp [upd,e3],by simp [upd,e7],by simp [upd,e8],by simp [upd,h1],rfl⟩
    simp [e3,h1]
    refine call_fn0 (spec_textOp _) .int fun _ _ => ?_
    by_cases h2 : textOp x.Op = 1
    · simp [e3,h2]
      exact hK _ _ _ ⟨by simp [upd,e1],by simp [upd,e2],by simp [upd,e3],by simp [upd,e7],by simp [upd,e8],by simp [upd,h2],rfl⟩
    simp [e3,h2]
    refine call_fn0 (spec_textOp _) .int fun _ _ => ?_
    simp [e3]
    exact hK _ _ _ ⟨by simp [upd,e1],by simp [upd,e2],by simp [upd,e3],by simp [upd,e7],by simp [upd,e8],by simp [upd,h1,h2],rfl⟩
  clear e1 e2 e3 e7 e8 e
  intro e H c1 S
  obtain rfl := S.hH
  refine seq_cut (fun e H c' => ISt x slots size c (decide (x.A = 0)) (decide (x.B = 0)) (sS x) e H) ?_ ?_
  rotate_left
  · intro K hK
    simp [S.e3]
    refine call_fn0 (spec_textOp _) .int fun _ _ => ?_
    by_cases h2 : textOp x.Op = 2
    · simp [S.e3,h2]
      refine call_fn0 (l15Name_fn hS) .bool fun _ _ => ?_
      have hs : sS x = (isName x.S && !isReserved x.S) := by unfold sS; rw [if_pos h2]; rfl
      cases hg : isName x.S && !isReserved x.S
      · simp [S.e3]
        exact hK _ _ _ ⟨by simp [upd,S.e1],by simp [upd,S.e2],by simp [upd,S.e3],by simp [upd,S.e7],by simp [upd,S.e8],by simp [upd,hs,hg],rfl⟩
      · simp [S.e3]
        exact hK _ _ _ ⟨by simp [upd,S.e1],by simp [upd,S.e2],by simp [upd,S.e3],by simp [upd,S.e7],by simp [upd,S.e8],by simp [upd,S.e9,hs,hg,h2],rfl⟩
    · simp [S.e3,h2]
      exact hK _ _ _ ⟨by simp [upd,S.e1],by simp [upd,S.e2],by simp [upd,S.e3],by simp [upd,S.e7],by simp [upd,S.e8],by simp [upd,S.e9,sS,h2],rfl⟩
  clear S e
  intro e H c1 S
  obtain rfl := S.hH
  refine seq_cut (fun e H c' => ISt x slots size c (sA x) (opB x slots) (opS x) e H) ?_ ?_
  rotate_left
  · intro K hK
    have E1 := S.e1; have E3 := S.e3
    by_cases h2 : x.Op = 2
    · simp [S.e3,h2]
      refine call_fn0 (l1In_fn _ _ _) .bool fun _ _ => ?_
      simp [S.e3]
      exact hK _ _ _ ⟨by simp [upd,S.e1],by simp [upd,S.e2],by simp [upd,S.e3],by simp [upd,sA,h2,S.e7],by simp [upd,opB,h2,S.e8],by simp [upd,opS_eq,h2,S.e9],rfl⟩
    by_cases h4 : x.Op = 4
    · simp [S.e3,h4]
      refine call_fn0 (l1In_fn _ _ _) .bool fun _ _ => ?_
      simp [S.e3]
      exact hK _ _ _ ⟨by simp [upd,S.e1],by simp [upd,S.e2],by simp [upd,S.e3],by simp [upd,sA,h4,S.e7],by simp [upd,opB,h4,S.e8],by simp [upd,opS_eq,h4,S.e9],rfl⟩
    by_cases h11 : x.Op = 11
    · simp [S.e3,h11]
      refine call_fn0 (l1In_fn _ _ _) .bool fun _ _ => ?_
      simp [S.e3]
      exact hK _ _ _ ⟨by simp [upd,S.e1],by simp [upd,S.e2],by simp [upd,S.e3],by simp [upd,sA,h11,S.e7],by simp [upd,opB,h11,S.e8],by simp [upd,opS_eq,h11,S.e9],rfl⟩
    by_cases h12 : x.Op = 12
    · simp [S.e3,h12]
      refine call_fn0 (l1In_fn _ _ _) .bool fun _ _ => ?_
      simp [S.e3]
      exact hK _ _ _ ⟨by simp [upd,S.e1],by simp [upd,S.e2],by simp [upd,S.e3],by simp [upd,sA,h12,S.e7],by simp [upd,opB,h12,S.e8],by simp [upd,opS_eq,h12,S.e9],rfl⟩
    by_cases h15 : x.Op = 15
    · simp [S.e3,h15]
      refine call_fn0 (l1In_fn _ _ _) .bool fun _ _ => ?_
      simp [S.e3]
      exact hK _ _ _ ⟨by simp [upd,S.e1],by simp [upd,S.e2],by simp [upd,S.e3],by simp [upd,sA,h15,S.e7],by simp [upd,opB,h15,S.e8],by simp [upd,opS_eq,h15,S.e9],rfl⟩
    by_cases h18 : x.Op = 18
    · simp [S.e3,h18]
      refine call_fn0 (l1In_fn _ _ _) .bool fun _ _ => ?_
      simp [S.e3]
      exact hK _ _ _ ⟨by simp [upd,S.e1],by simp [upd,S.e2],by simp [upd,S.e3],by simp [upd,sA,h18,S.e7],by simp [upd,opB,h18,S.e8],by simp [upd,opS_eq,h18,S.e9],rfl⟩
    by_cases h19 : x.Op = 19
    · simp [S.e3,h19]
      refine call_fn0 (l1In_fn _ _ _) .bool fun _ _ => ?_
      simp [S.e3]
      exact hK _ _ _ ⟨by simp [upd,S.e1],by simp [upd,S.e2],by simp [upd,S.e3],by simp [upd,sA,h19,S.e7],by simp [upd,opB,h19,S.e8],by simp [upd,opS_eq,h19,S.e9],rfl⟩
    by_cases h20 : x.Op = 20
    · simp [S.e3,h20]
      refine call_fn0 (l1In_fn _ _ _) .bool fun _ _ => ?_
      simp [S.e3]
      exact hK _ _ _ ⟨by simp [upd,S.e1],by simp [upd,S.e2],by simp [upd,S.e3],by simp [upd,sA,h20,S.e7],by simp [upd,opB,h20,S.e8],by simp [upd,opS_eq,h20,S.e9],rfl⟩
    by_cases h21 : x.Op = 21
    · simp [S.e3,h21]
      refine call_fn0 (l1In_fn _ _ _) .bool fun _ _ => ?_
      simp [S.e3]
      exact hK _ _ _ ⟨by simp [upd,S.e1],by simp [upd,S.e2],by simp [upd,S.e3],by simp [upd,sA,h21,S.e7],by simp [upd,opB,h21,S.e8],by simp [upd,opS_eq,h21,S.e9],rfl⟩
    by_cases h22 : x.Op = 22
    · simp [S.e3,h22]
      refine call_fn0 (l1In_fn _ _ _) .bool fun _ _ => ?_
      simp [S.e3]
      exact hK _ _ _ ⟨by simp [upd,S.e1],by simp [upd,S.e2],by simp [upd,S.e3],by simp [upd,sA,h22,S.e7],by simp [upd,opB,h22,S.e8],by simp [upd,opS_eq,h22,S.e9],rfl⟩
    by_cases h23 : x.Op = 23
    · simp [S.e3,h23]
      refine call_fn0 (l1In_fn _ _ _) .bool fun _ _ => ?_
      simp [S.e3]
      exact hK _ _ _ ⟨by simp [upd,S.e1],by simp [upd,S.e2],by simp [upd,S.e3],by simp [upd,sA,h23,S.e7],by simp [upd,opB,h23,S.e8],by simp [upd,opS_eq,h23,S.e9],rfl⟩
    by_cases h49 : x.Op = 49
    · simp [S.e3,h49]
      refine call_fn0 (l1In_fn _ _ _) .bool fun _ _ => ?_
      simp [S.e3]
      exact hK _ _ _ ⟨by simp [upd,S.e1],by simp [upd,S.e2],by simp [upd,S.e3],by simp [upd,sA,h49,S.e7],by simp [upd,opB,h49,S.e8],by simp [upd,opS_eq,h49,S.e9],rfl⟩
    by_cases h52 : x.Op = 52
    · simp [S.e3,h52]
      refine call_fn0 (l1In_fn _ _ _) .bool fun _ _ => ?_
      simp [S.e3]
      exact hK _ _ _ ⟨by simp [upd,S.e1],by simp [upd,S.e2],by simp [upd,S.e3],by simp [upd,sA,h52,S.e7],by simp [upd,opB,h52,S.e8],by simp [upd,opS_eq,h52,S.e9],rfl⟩
    by_cases h3 : x.Op = 3
    · simp [S.e3,h3]
      exact hK _ _ _ ⟨by simp [upd,S.e1],by simp [upd,S.e2],by simp [upd,S.e3],by simp [upd,sA,h3,S.e7],by simp [upd,opB,h3,S.e8],by simp [upd,opS_eq,h3]; omega,rfl⟩
    by_cases h24 : x.Op = 24
    · by_cases h5 : 0 ≤ x.B
      · simp [S.e3,S.e1,h24,h5]
        exact hK _ _ _ ⟨by simp [upd,S.e1],by simp [upd,S.e2],by simp [upd,S.e3],by simp [upd,sA,h24,h5,S.e7],by simp [upd,opB,h24,h5,S.e8],by simp [upd,opS_eq,h24,h5,S.e9],rfl⟩
      · simp [S.e3,S.e1,h24,h5]
        exact hK _ _ _ ⟨by simp [upd,S.e1],by simp [upd,S.e2],by simp [upd,S.e3],by simp [upd,sA,h24,h5,S.e7],by simp [upd,opB,h24,h5,S.e8],by simp [upd,opS_eq,h24,h5,S.e9],rfl⟩
    simp [S.e3,h2,h4,h11,h12,h15,h18,h19,h20,h21,h22,h23,h49,h52,h3,h24]
    exact hK _ _ _ ⟨by simp [upd,S.e1],by simp [upd,S.e2],by simp [upd,S.e3],by simp [upd,sA,h2,h4,h11,h12,h15,h18,h19,h20,h21,h22,h23,h49,h52,h3,h24,S.e7],by simp [upd,opB,h2,h4,h11,h12,h15,h18,h19,h20,h21,h22,h23,h49,h52,h3,h24,S.e8],by simp [upd,opS_eq,h2,h4,h11,h12,h15,h18,h19,h20,h21,h22,h23,h49,h52,h3,h24,S.e9],rfl⟩
  clear S e
  intro e H c1 S
  obtain rfl := S.hH
  refine seq_cut (fun e H c' => ISt x slots size c (if slotOp x.Op = true then decide (0 ≤ x.A) && decide (x.A < slots) else sA x) (opB x slots) (opS x) e H) ?_ ?_
  rotate_left
  · intro K hK
    simp [S.e3]
    refine call_fn0 (spec_slotOp _) .bool fun _ _ => ?_
    cases hso : slotOp x.Op
    · simp [S.e3]
      exact hK _ _ _ ⟨by simp [upd,S.e1],by simp [upd,S.e2],by simp [upd,S.e3],by simp [upd,S.e7,hso],by simp [upd,S.e8],by simp [upd,S.e9],rfl⟩
    · by_cases h5 : 0 ≤ x.A
      · simp [S.e3,S.e1,h5]
        exact hK _ _ _ ⟨by simp [upd,S.e1],by simp [upd,S.e2],by simp [upd,S.e3],by simp [upd,h5,hso],by simp [upd,S.e8],by simp [upd,S.e9],rfl⟩
      · simp [S.e3,S.e1,h5]
        exact hK _ _ _ ⟨by simp [upd,S.e1],by simp [upd,S.e2],by simp [upd,S.e3],by simp [upd,h5,hso],by simp [upd,S.e8],by simp [upd,S.e9],rfl⟩
  clear S e
  intro e H c1 S
  obtain rfl := S.hH
  refine seq_cut (fun e H c' => ISt x slots size c (opA x slots size) (opB x slots) (opS x) e H) ?_ ?_
  rotate_left
  · intro K hK
    simp [S.e3]
    refine call_fn0 (spec_hasTarget _) .bool fun _ _ => ?_
    cases ht : hasTarget x.Op
    · have ha : opA x slots size = if slotOp x.Op = true then decide (0 ≤ x.A) && decide (x.A < slots) else sA x := by
        cases hs : slotOp x.Op
        · rw [if_neg (by simp)]; exact opA_none hs ht
        · rw [if_pos rfl]; exact opA_slot hs
      rw [← ha] at S
      simp [S.e3]
      exact hK _ _ _ ⟨by simp [upd,S.e1],by simp [upd,S.e2],by simp [upd,S.e3],by simp [upd,S.e7],by simp [upd,S.e8],by simp [upd,S.e9],rfl⟩
    · rw [opA_target ht] at hK
      by_cases h5 : 0 ≤ x.A
      · simp [S.e3,S.e2,h5]
        exact hK _ _ _ ⟨by simp [upd,S.e1],by simp [upd,S.e2],by simp [upd,S.e3],by simp [upd,h5],by simp [upd,S.e8],by simp [upd,S.e9],rfl⟩
      · simp [S.e3,S.e2,h5]
        exact hK _ _ _ ⟨by simp [upd,S.e1],by simp [upd,S.e2],by simp [upd,S.e3],by simp [upd,h5],by simp [upd,S.e8],by simp [upd,S.e9],rfl⟩
  clear S e
  intro e H c1 S
  obtain rfl := S.hH
  refine seq_cut (fun e H c' => ISt x slots size c (opA x slots size) (opB x slots) (opS x) e H ∧ e 10 = .bool (decide (x.T = []))) ?_ ?_
  rotate_left
  · intro K hK
    simp [S.e3]
    exact hK _ _ _ ⟨⟨by simp [upd,S.e1],by simp [upd,S.e2],by simp [upd,S.e3],by simp [upd,S.e7],by simp [upd,S.e8],by simp [upd,S.e9],rfl⟩,by simp [upd]⟩
  clear S e
  intro e H c1 ⟨S,e10⟩
  obtain rfl := S.hH
  refine seq_cut (fun e H c' => ISt x slots size c (opA x slots size) (opB x slots) (opS x) e H ∧ e 10 = .bool (opT x)) ?_ ?_
  rotate_left
  · intro K hK
    by_cases h1 : x.Op = 25
    · simp [S.e3,h1]
      refine call_fn0 (l15Name_fn hT) .bool fun _ _ => ?_
      simp [S.e3]
      exact hK _ _ _ ⟨⟨by simp [upd,S.e1],by simp [upd,S.e2],by simp [upd,S.e3],by simp [upd,S.e7],by simp [upd,S.e8],by simp [upd,S.e9],rfl⟩,by simp [upd,opT,h1,good]⟩
    · simp [S.e3,h1]
      exact hK _ _ _ ⟨⟨by simp [upd,S.e1],by simp [upd,S.e2],by simp [upd,S.e3],by simp [upd,S.e7],by simp [upd,S.e8],by simp [upd,S.e9],rfl⟩,by simp [upd,opT,h1,e10]⟩
  clear S e10 e
  intro e H c1 ⟨S,e10⟩
  obtain rfl := S.hH
  simp [S.e3]
  refine call_fn0 (l1In_fn _ _ _) .bool fun _ _ => ?_
  have hd : isIns x slots size = (inR x.Op 1 56 && opA x slots size && opB x slots && opS x && opT x) := rfl
  cases hk : inR x.Op 1 56
  · simp
    exact fin_plain ⟨by rw [hd,hk]; rfl,rfl⟩
  rw [hk] at hd
  revert hd
  have S7 := S.e7; have S8 := S.e8; have S9 := S.e9
  revert S7 S8 S9 e10
  cases opA x slots size <;> cases opB x slots <;> cases opS x <;> cases opT x <;> (intro e10 S9 S8 S7 hd; simp [S7,S8,S9,e10]; exact fin_plain ⟨by rw [hd]; rfl,rfl⟩)
set_option maxRecDepth 100000
noncomputable def heights (slots : Nat) (code : List TIns) : Bool := @decide (okHeights slots code) (Classical.propDecidable _)
theorem heights_true {slots : Nat} {code : List TIns} (h : okHeights slots code) : heights slots code = true := @decide_eq_true _ (Classical.propDecidable _) h
theorem heights_false {slots : Nat} {code : List TIns} (h : ¬ okHeights slots code) : heights slots code = false := @decide_eq_false _ (Classical.propDecidable _) h
theorem fin_tj {v : AV} {b : Bool} {H : List AObj} {c : Nat} : finW (fun r O _ => r = .tup [.junk,.bool b] ∧ O = []) (.tup [v,.bool b]) H c :=
  fin_sub (v' := .tup [.junk,.bool b]) (Hk := []) (List.nil_sublist _) (.tup rfl fun j a a' h1 h2 => by
    match j with
    | 0 => simp at h1 h2; subst h1; subst h2; exact .junk _
    | 1 => simp at h1 h2; subst h1; subst h2; exact .refl _
    | j + 2 => simp at h1) ⟨rfl,rfl⟩
def hsUp (n i : Nat) : List (List AV) := List.replicate i (encI (-1)) ++ List.replicate (n - i) (encI 0)
theorem hsUp_0 (n : Nat) : hsUp n 0 = List.replicate n [.int .i64 0] := by simp [hsUp,encI]
theorem hsUp_all (n : Nat) : hsUp n n = (List.replicate n (-1)).map encI := by simp [hsUp,encI]
theorem hsUp_get {n i : Nat} (h : i < n) : (hsUp n i)[i]? = some (encI 0) := by
  unfold hsUp
  rw [List.getElem?_append_right (by simp),List.length_replicate,Nat.sub_self,List.getElem?_replicate,if_pos (by omega)]
theorem hsUp_set {n i : Nat} (h : i < n) : (hsUp n i).set i [.int .i64 (-1)] = hsUp n (i + 1) := by
  unfold hsUp
  have e : n - i = (n - (i + 1)) + 1 := by omega
  rw [e,List.replicate_succ,List.set_append_right _ _ (by simp),List.length_replicate,Nat.sub_self,List.set_cons_zero,List.replicate_succ']
  simp [encI]
structure HStp (f : TFunc) (c tA t4 tW t7 : Nat) (hs : List Int) (W : List Nat) (rows : List (List AV)) (e : Env) (H : List AObj) : Prop where
  e1 : e 1 = .ptr 0 c 6 0 0
  e4 : e 4 = .ptr 2 t4 1 0 0
  e7 : e 7 = .ptr 4 t7 1 0 0
  e8 : e 8 = .fn 183 [.ptr 2 t4 1 0 0,.ptr 4 t7 1 0 0]
  hH : H = [⟨false,c,6,[f.enc]⟩,⟨false,tA,1,hs.map encI⟩,⟨false,t4,1,[[.ref 1 tA 1 hs.length]]⟩,⟨false,tW,1,rows⟩,⟨false,t7,1,[[.ref 3 tW 1 W.length]]⟩]
  hW : rows.take W.length = W.map encN
  hl : W.length ≤ rows.length
  hr : ∀ row,row ∈ rows → ∃ i,row = encN i
  inv : HInv f.Code.list hs
  done : ∀ (i : Nat) (v : Int),hs[i]? = some v → 0 ≤ v → DoneAt f.Code.list hs i ∨ i ∈ W
  vis : ∀ i,i ∈ W → ∃ v,hs[i]? = some v ∧ 0 ≤ v
  few : W.length + 2 * unv hs ≤ 16777216
structure HP (f : TFunc) (hs : List Int) (W : List Nat) (rows : List (List AV)) (a : Nat) (v : Int) : Prop where
  hW : rows.take W.length = W.map encN
  hl : W.length ≤ rows.length
  hr : ∀ row,row ∈ rows → ∃ i,row = encN i
  inv : HInv f.Code.list hs
  hv : hs[a]? = some v
  hp : 0 ≤ v
  done : ∀ (i : Nat) (v : Int),hs[i]? = some v → 0 ≤ v → DoneAt f.Code.list hs i ∨ i ∈ W ∨ i = a
  vis : ∀ i,i ∈ W → ∃ v,hs[i]? = some v ∧ 0 ≤ v
  few : W.length + 2 * unv hs ≤ 16777215
theorem HP.give {f : TFunc} {hs : List Int} {W : List Nat} {rows : List (List AV)} {a j : Nat} {v w u : Int} (X : HP f hs W rows a v) (hr : Reach f.Code.list j w) (hg : giveOk hs j w) (hu : hs[j]? = some u) (hn : u < 0) :
    HP f (hs.set j w) (W ++ [j]) (rows.take W.length ++ [encN j]) a v ∧ unv (hs.set j w) + 1 = unv hs ∧ Gave hs (hs.set j w) j w := by
  obtain ⟨I,G⟩ := give_inv X.inv hr hg
  have hunv := unv_new hu hn G.pos
  have hlen : (rows.take W.length).length = W.length := by rw [List.length_take]; have := X.hl; omega
  refine ⟨⟨?_,by simp [hlen],?_,I,G.keep _ _ X.hv X.hp,X.hp,?_,?_,?_⟩,hunv,G⟩
  · rw [List.take_of_length_le (by simp [hlen]),X.hW]; simp
  · intro row h
    rcases List.mem_append.1 h with h | h
    · exact X.hr row (List.mem_of_mem_take h)
    · exact ⟨j,List.mem_singleton.1 h⟩
  · intro i v' h1 h2
    rcases G.new i v' h1 h2 with rfl | h3
    · exact .inr (.inl (by simp))
    · rcases X.done i v' h3 h2 with h | h | h
      · exact .inl (done_keep h G fun v'' h4 _ => by rw [h1] at h4; cases h4; exact h3)
      · exact .inr (.inl (List.mem_append_left _ h))
      · exact .inr (.inr h)
  · intro i hi
    rcases List.mem_append.1 hi with h | h
    · obtain ⟨v',h1,h2⟩ := X.vis i h
      exact ⟨v',G.keep _ _ h1 h2,h2⟩
    · rw [List.mem_singleton.1 h]; exact ⟨w,G.at_,G.pos⟩
  · have := X.few; simp; omega
theorem HP.close {f : TFunc} {hs : List Int} {W : List Nat} {rows : List (List AV)} {a : Nat} {v : Int} {x : TIns} (X : HP f hs W rows a v) (hx : f.Code.list[a]? = some x) (hne : insNeed x ≤ v)
    (hsucc : ∀ j w,succ x a v j w → hs[j]? = some w ∧ 0 ≤ w) (i : Nat) (u : Int) (h1 : hs[i]? = some u) (h2 : 0 ≤ u) : DoneAt f.Code.list hs i ∨ i ∈ W := by
  rcases X.done i u h1 h2 with h | h | rfl
  · exact .inl h
  · exact .inr h
  · refine .inl fun v' x' h3 h4 h5 => ?_
    rw [X.hv] at h3; cases h3
    rw [hx] at h5; cases h5
    exact ⟨hne,hsucc⟩
structure HX (f : TFunc) (c tA t4 tW t7 tx : Nat) (hs : List Int) (W : List Nat) (rows : List (List AV)) (a : Nat) (v : Int) (x : TIns) (e : Env) (H : List AObj) : Prop where
  e1 : e 1 = .ptr 0 c 6 0 0
  e4 : e 4 = .ptr 2 t4 1 0 0
  e7 : e 7 = .ptr 4 t7 1 0 0
  e8 : e 8 = .fn 183 [.ptr 2 t4 1 0 0,.ptr 4 t7 1 0 0]
  e9 : e 9 = .int .i64 (a : Int)
  e10 : e 10 = .ptr 5 tx 5 0 0
  e11 : e 11 = .int .i64 v
  hH : H = hObj ⟨false,c,6,[f.enc]⟩ tA t4 tW t7 hs rows W.length ⟨false,tx,5,[x.enc]⟩
  p : HP f hs W rows a v
theorem av_sl {α : Type} {enc : α → List AV} {w : Nat} (hE : ∀ x a,a ∈ enc x → Av [] a) (s : SL α) : Av [] (s.av w enc) := by
  cases s with
  | nil => exact .nsl
  | mk t l =>
    refine .slc (by simp) fun r j x a hx ha => ?_
    simp only [List.getElem?_map,Option.map_eq_some_iff] at hx
    obtain ⟨y,_,rfl⟩ := hx
    exact hE y a (List.mem_of_getElem? ha)
theorem av_ins (x : TIns) (a : AV) (h : a ∈ x.enc) : Av [] a := by
  simp only [TIns.enc,List.mem_cons,List.not_mem_nil,or_false] at h
  rcases h with rfl | rfl | rfl | rfl | rfl <;> constructor
theorem av_param (x : TParam) (a : AV) (h : a ∈ x.enc) : Av [] a := by
  simp only [TParam.enc,List.mem_cons,List.not_mem_nil,or_false] at h
  rcases h with rfl | rfl <;> constructor
theorem av_func (f : TFunc) (a : AV) (h : a ∈ f.enc) : Av [] a := by
  simp only [TFunc.enc,List.mem_cons,List.not_mem_nil,or_false] at h
  rcases h with rfl | rfl | rfl | rfl | rfl | rfl
  · exact .str
  · exact av_sl av_param _
  · exact av_sl av_param _
  · exact av_sl (fun x a h => by rw [List.mem_singleton.1 h]; exact .str) _
  · exact .bool
  · exact av_sl av_ins _
theorem avRows_mem {o : AObj} (h : ∀ row,row ∈ o.rows → ∀ a,a ∈ row → Av [] a) : AvRows [] o := fun r j x a hx ha => h x (List.mem_of_getElem? hx) a (List.mem_of_getElem? ha)
theorem av_hObj {f : TFunc} {x : TIns} {c tA t4 tW t7 tx k : Nat} {hs : List Int} {rows : List (List AV)} (hr : ∀ row,row ∈ rows → ∃ i,row = encN i) : ∀ o,o ∈ hObj ⟨false,c,6,[f.enc]⟩ tA t4 tW t7 hs rows k ⟨false,tx,5,[x.enc]⟩ → AvRows [] o := by
  intro o ho
  simp only [hObj,List.mem_cons,List.not_mem_nil,or_false] at ho
  rcases ho with rfl | rfl | rfl | rfl | rfl | rfl
  · exact avRows_mem fun row h a ha => by rw [List.mem_singleton.1 h] at ha; exact av_func f a ha
  · exact avRows_mem fun row h a ha => by
      obtain ⟨n,_,rfl⟩ := List.mem_map.1 h
      rw [List.mem_singleton.1 ha]; exact .int
  · exact avRows_mem fun row h a ha => by rw [List.mem_singleton.1 h] at ha; rw [List.mem_singleton.1 ha]; exact .ref
  · exact avRows_mem fun row h a ha => by
      obtain ⟨i,rfl⟩ := hr row h
      rw [List.mem_singleton.1 ha]; exact .int
  · exact avRows_mem fun row h a ha => by rw [List.mem_singleton.1 h] at ha; rw [List.mem_singleton.1 ha]; exact .ref
  · exact avRows_mem fun row h a ha => by rw [List.mem_singleton.1 h] at ha; exact av_ins x a ha
theorem alt_cut {P : Program} {A : IR} {Q : Post} {e : Env} {H : List AObj} {c : Nat} {K : Env → List AObj → Nat → Prop} (R : Env → List AObj → Nat → Prop) (hB : ∀ e H c,R e H c → K e H c)
    (hA : ∀ K : Env → List AObj → Nat → Prop,(∀ e H c,R e H c → K e H c) → irW P A (thenQ K Q) e H c) : irW P A (thenQ K Q) e H c := hA _ hB
theorem give_call {f : TFunc} {x : TIns} {c tA t4 tW t7 tx : Nat} {hs : List Int} {W : List Nat} {rows : List (List AV)} {a j c0 : Nat} {v w : Int} {K : AV → List AObj → Nat → Prop} (X : HP f hs W rows a v) (hr : Reach f.Code.list j w)
    (hbad : ¬ okReach f.Code.list → ∀ c',K (.bool false) [] c')
    (hgood : ∀ hs' W' rows' tW' c',W'.length + 2 * unv hs' ≤ W.length + 2 * unv hs → HP f hs' W' rows' a v → Gave hs hs' j w → K (.bool true) (hObj ⟨false,c,6,[f.enc]⟩ tA t4 tW' t7 hs' rows' W'.length ⟨false,tx,5,[x.enc]⟩) c') :
    CallW Tryz.prog 183 [.int .i64 (j : Int),.int .i64 w,.ptr 2 t4 1 0 0,.ptr 4 t7 1 0 0] (hObj ⟨false,c,6,[f.enc]⟩ tA t4 tW t7 hs rows W.length ⟨false,tx,5,[x.enc]⟩) c0 K := by
  refine call_con (give_con X.hl (by have := X.few; omega)) fun r O c' hc hq _ _ => ?_
  rcases hq with ⟨h1,rfl,rfl⟩ | ⟨h1,rfl,⟨⟨u,h2,h3⟩,tW',rfl⟩ | ⟨h2,h3,rfl⟩⟩
  · exact ⟨.bool,fun o h => (by cases h),hbad (give_bad X.inv hr h1) c'⟩
  · obtain ⟨Y,hu,G⟩ := X.give hr h1 h2 h3
    have e : W.length + 1 = (W ++ [j]).length := by simp
    rw [e]
    exact ⟨.bool,av_hObj Y.hr,hgood _ _ _ _ _ (by simp; omega) Y G⟩
  · exact ⟨.bool,av_hObj X.hr,hgood _ _ _ _ _ (Nat.le_refl _) X (.refl h2 h3)⟩
theorem body_give : bodyOk Tryz.prog 183 = true := by kernel_rfl
theorem impl_heights {f : TFunc} (hf : f.ok) (hn : f.Code.list.length ≤ 8000) : Fnc Tryz.prog 150 [.agg f.enc] (.tup [.junk,.bool (heights f.Slots.list.length f.Code.list)]) := by
  refine fn_of c150 (by simp [F150]) fun c => ?_
  unfold F150
  refine seq_cut (fun e H c' => e 1 = .ptr 0 c 6 0 0 ∧ H = [⟨false,c,6,[f.enc]⟩]) ?_ ?_
  rotate_left
  · intro K hK
    simp
    exact hK _ _ _ ⟨rfl,rfl⟩
  intro e H c1 ⟨e1,hH⟩
  subst hH
  by_cases h0 : f.Code.list.length = 0
  · simp [e1,h0]
    rw [heights_false fun h => by have := h.1; omega]
    exact fin_tj
  refine seq_cut (fun e H c' => e 1 = .ptr 0 c 6 0 0 ∧ H = [⟨false,c,6,[f.enc]⟩]) ?_ ?_
  rotate_left
  · intro K hK
    simp [e1,h0]
    exact hK _ _ _ ⟨by simp [upd,e1],rfl⟩
  clear e1 e
  intro e H c2 ⟨e1,hH⟩
  subst hH
  refine seq_cut (fun e H c' => ∃ tA t4,e 1 = .ptr 0 c 6 0 0 ∧ e 4 = .ptr 2 t4 1 0 0 ∧ H = [⟨false,c,6,[f.enc]⟩,⟨false,tA,1,List.replicate f.Code.list.length [.int .i64 0]⟩,⟨false,t4,1,[[.ref 1 tA 1 f.Code.list.length]]⟩]) ?_ ?_
  rotate_left
  · intro K hK
    simp [e1]
    exact ⟨by omega,by omega,hK _ _ _ ⟨_,_,by simp [upd,e1],by simp [upd],rfl⟩⟩
  clear e1 e
  intro e H c3 ⟨tA,t4,e1,e4,hH⟩
  subst hH
  refine seq_cut (fun e H c' => e 1 = .ptr 0 c 6 0 0 ∧ e 4 = .ptr 2 t4 1 0 0 ∧ (∀ x,x ∈ f.Code.list → isIns x f.Slots.list.length f.Code.list.length = true) ∧ H = [⟨false,c,6,[f.enc]⟩,⟨false,tA,1,(List.replicate f.Code.list.length (-1)).map encI⟩,⟨false,t4,1,[[.ref 1 tA 1 f.Code.list.length]]⟩]) ?_ ?_
  rotate_left
  · intro K hK
    have hall : f.Code.list.length ≤ f.Code.list.length := Nat.le_refl _
    simp [e1]
    refine loop_drop f.Code.list.length (fun i e H c' => e 1 = .ptr 0 c 6 0 0 ∧ e 4 = .ptr 2 t4 1 0 0 ∧ e 21 = f.Code.av 5 TIns.enc ∧ e 22 = .int .i64 f.Code.list.length ∧ e 23 = .int .i64 i ∧ (∀ k x,k < i → f.Code.list[k]? = some x → isIns x f.Slots.list.length f.Code.list.length = true) ∧
      H = [⟨false,c,6,[f.enc]⟩,⟨false,tA,1,hsUp f.Code.list.length i⟩,⟨false,t4,1,[[.ref 1 tA 1 f.Code.list.length]]⟩]) ⟨by simp [upd,e1],by simp [upd,e4],by simp [upd],by simp [upd],by simp [upd],fun k x hk => absurd hk (Nat.not_lt_zero _),by rw [hsUp_0]⟩ ?_
    intro i e H c' hi ⟨e1,e4,e21,e22,e23,hp,hH⟩ N hN
    subst hH
    by_cases h : i < f.Code.list.length
    · have hx : f.Code.list[i]? = some f.Code.list[i] := List.getElem?_eq_getElem h
      generalize f.Code.list[i] = x at hx
      simp [e1,e4,e21,e22,e23,h,getW_of hx]
      have hxk : x ∈ f.Code.list := List.mem_of_getElem? hx
      have hxo := hf.2.2.2.2.2 x hxk
      refine call_fn0 (impl_isIns hxo.1 hxo.2 _ _) .bool fun _ _ => ?_
      cases hs : isIns x f.Slots.list.length f.Code.list.length
      · simp
        rw [heights_false fun hh => by have := hh.2.1 x hxk; rw [hs] at this; cases this]
        exact fin_tj
      · simp [e1,e4,e21,e22,e23,h,getW_of (hsUp_get h)]
        rw [hsUp_set h]
        exact hN _ _ _ _ h (List.sublist_append_left [_,_,_] [_]) ⟨by simp [upd,e1],by simp [upd,e4],by simp [upd,e21],by simp [upd,e22],by simp [upd]; exact step64 (n := f.Code.list.length) (by unfold mx; omega) h,fun k y hk hy => by
          rcases Nat.lt_or_eq_of_le (Nat.le_of_lt_succ hk) with h1 | h1
          · exact hp k y h1 hy
          · subst h1; rw [hx] at hy; cases hy; exact hs,rfl⟩
    · have hie : i = f.Code.list.length := by omega
      subst hie
      simp [e1,e4,e21,e22,e23]
      rw [hsUp_all]
      exact hK _ _ _ ⟨by simp [upd,e1],by simp [upd,e4],fun x hx => by
        obtain ⟨k,hk,hy⟩ := List.getElem_of_mem hx
        exact hp k x hk (by rw [List.getElem?_eq_getElem hk,hy]),rfl⟩
  clear e1 e4 e
  intro e H c3 ⟨e1,e4,hi,hH⟩
  subst hH
  have hpos : 0 < f.Code.list.length := by omega
  have hl0 : (List.replicate f.Code.list.length (-1 : Int)).length = f.Code.list.length := List.length_replicate
  have hg0 : ∀ (i : Nat) (v : Int),(List.replicate f.Code.list.length (-1 : Int))[i]? = some v → v = -1 := fun i v h => by
    rw [List.getElem?_replicate] at h
    split at h
    · cases h; rfl
    · cases h
  generalize List.replicate f.Code.list.length (-1 : Int) = hs0 at hl0 hg0
  have hx0 : hs0[0]? = some hs0[0] := List.getElem?_eq_getElem (by omega)
  have hx : hs0[0]? = some (-1) := by rw [hx0,hg0 0 _ hx0]
  clear hx0
  have hget : ∀ (i : Nat) (v : Int),(hs0.set 0 0)[i]? = some v → (i = 0 ∧ v = 0) ∨ v = -1 := fun i v h => by
    by_cases e : i = 0
    · subst e
      rw [List.getElem?_set_self (by omega)] at h
      exact .inl ⟨rfl,(Option.some.inj h).symm⟩
    · rw [List.getElem?_set_ne (Ne.symm e)] at h
      exact .inr (hg0 i v h)
  refine seq_cut (fun e H c' => e 1 = .ptr 0 c 6 0 0 ∧ e 4 = .ptr 2 t4 1 0 0 ∧ H = [⟨false,c,6,[f.enc]⟩,⟨false,tA,1,(hs0.set 0 0).map encI⟩,⟨false,t4,1,[[.ref 1 tA 1 f.Code.list.length]]⟩]) ?_ ?_
  rotate_left
  · intro K hK
    simp [e1,e4,hpos,getW_of hx,hl0]
    exact hK _ _ _ ⟨by simp [upd,e1],by simp [upd,e4],by rw [map_setI]⟩
  clear e1 e4 e
  intro e H c3 ⟨e1,e4,hH⟩
  subst hH
  have hl1 : (hs0.set 0 0).length = f.Code.list.length := by rw [List.length_set,hl0]
  have hz : (hs0.set 0 0)[0]? = some 0 := by rw [List.getElem?_set_self (by omega)]
  generalize hs0.set 0 0 = hs1 at hget hl1 hz ⊢
  clear hl0 hg0 hx hs0
  refine seq_cut (fun e H c' => ∃ tW t7,e 1 = .ptr 0 c 6 0 0 ∧ e 4 = .ptr 2 t4 1 0 0 ∧ e 7 = .ptr 4 t7 1 0 0 ∧ H = [⟨false,c,6,[f.enc]⟩,⟨false,tA,1,hs1.map encI⟩,⟨false,t4,1,[[.ref 1 tA 1 f.Code.list.length]]⟩,⟨false,tW,1,[[.int .i64 0]]⟩,⟨false,t7,1,[[.ref 3 tW 1 1]]⟩]) ?_ ?_
  rotate_left
  · intro K hK
    simp [e1,e4]
    exact hK _ _ _ ⟨_,_,by simp [upd,e1],by simp [upd,e4],rfl,rfl⟩
  clear e1 e4 e
  intro e H c3 ⟨tW,t7,e1,e4,e7,hH⟩
  subst hH
  refine seq_cut (fun e H c' => ∃ hs W rows tW,HStp f c tA t4 tW t7 hs W rows e H) ?_ ?_
  rotate_left
  · intro K hK
    simp [e1,e4,e7]
    have hu : unv hs1 ≤ 8000 := Nat.le_trans List.countP_le_length (by omega)
    refine hK _ _ _ ⟨hs1,[0],[[.int .i64 0]],tW,by simp [upd,e1],by simp [upd,e4],by simp [upd,e7],rfl,by rw [hl1]; rfl,rfl,by simp,fun row h => ⟨0,List.mem_singleton.1 h⟩,⟨hl1,?_,hz⟩,?_,?_,by simp; omega⟩
    · intro i v hv
      rcases hget i v hv with ⟨rfl,rfl⟩ | h
      · exact .inr ⟨Int.le_refl _,by omega,.zero⟩
      · exact .inl h
    · intro i v hv hp
      rcases hget i v hv with ⟨rfl,rfl⟩ | h
      · exact .inr (List.mem_singleton.2 rfl)
      · omega
    · intro i hi
      simp at hi; subst hi
      exact ⟨0,hz,Int.le_refl _⟩
  clear e1 e4 e7 e
  intro e H c4 ⟨hs,W,rows,tW,S⟩
  refine seq_cut (fun e H c' => okHeights f.Slots.list.length f.Code.list ∧ ∃ x,e 4 = .ptr 2 t4 1 0 0 ∧ H[2]? = some ⟨false,t4,1,[[x]]⟩) ?_ ?_
  rotate_left
  · intro K hK
    refine blk_cut (loop_meas (fun m e H c' => ∃ hs W rows tW,m = W.length + 2 * unv hs ∧ HStp f c tA t4 tW t7 hs W rows e H) ⟨hs,W,rows,tW,rfl,S⟩ ?_)
    clear S
    intro m e H c5 ⟨hs,W,rows,tW,hm,S⟩ N hN
    obtain rfl := S.hH
    have hlen := S.inv.len
    by_cases hW0 : W.length = 0
    · have hnil : W = [] := List.length_eq_zero_iff.1 hW0
      simp [S.e1,S.e4,S.e7,hW0]
      refine hK _ _ _ ⟨⟨hpos,hi,done_ok S.inv fun i v x hv hp hx => ?_⟩,.ref 1 tA 1 hs.length,by simp [upd,S.e4],by simp⟩
      rcases S.done i v hv hp with h | h
      · exact h v x hv hp hx
      · rw [hnil] at h; cases h
    obtain ⟨W',at_,rfl⟩ : ∃ W' a,W = W' ++ [a] := by
      rcases List.eq_nil_or_concat W with h | ⟨l,b,h⟩
      · rw [h] at hW0; exact absurd rfl hW0
      · exact ⟨l,b,by rw [h,List.concat_eq_append]⟩
    obtain ⟨v,hv,hvp⟩ := S.vis at_ (by simp)
    have hat : at_ < f.Code.list.length := by rw [← hlen]; exact (List.getElem?_eq_some_iff.1 hv).1
    obtain ⟨x,hx⟩ : ∃ x,f.Code.list[at_]? = some x := ⟨_,List.getElem?_eq_getElem hat⟩
    have hxm := List.mem_of_getElem? hx
    have hix := hi x hxm
    have hreach : Reach f.Code.list at_ v := by
      rcases S.inv.range at_ v hv with h | h
      · omega
      · exact h.2.2
    have hrow : rows[W'.length]? = some [.int .i64 (at_ : Int)] := by
      have h1 : (rows.take (W' ++ [at_]).length)[W'.length]? = some (encN at_) := by rw [S.hW]; simp
      rw [List.getElem?_take_of_lt (by simp)] at h1
      exact h1
    have hwl : W'.length < rows.length := (List.getElem?_eq_some_iff.1 hrow).1
    have hWn : ¬ (W' ++ [at_]).length = 0 := hW0
    have hWl : (W' ++ [at_]).length = W'.length + 1 := by simp
    have hwr : IntKind.i64.wrap (((W'.length + 1 : Nat) : Int) - 1) = W'.length := by
      have := S.few
      rw [hWl] at this
      rw [wrap64 (by omega) (by omega)]; omega
    have hwr2 : IntKind.i64.wrap (W'.length : Int) = W'.length := by
      have := S.few
      rw [hWl] at this
      rw [wrap64 (by omega) (by omega)]
    refine seq_cut (fun e' H' c' => e' = upd (upd (upd e 45 (.ref 3 tW 1 (W'.length + 1))) 46 (.int .i64 ((W'.length : Int) + 1))) 47 (.bool true) ∧ H' = [⟨false,c,6,[f.enc]⟩,⟨false,tA,1,hs.map encI⟩,⟨false,t4,1,[[.ref 1 tA 1 hs.length]]⟩,⟨false,tW,1,rows⟩,⟨false,t7,1,[[.ref 3 tW 1 (W' ++ [at_]).length]]⟩]) ?_ ?_
    rotate_left
    · intro K2 hK2
      simp [S.e7]
      exact hK2 _ _ _ ⟨rfl,by simp⟩
    intro e' H' c6 ⟨he,hH'⟩
    subst hH'
    have E1 : e' 1 = .ptr 0 c 6 0 0 := by rw [he]; simp [upd,S.e1]
    have E4 : e' 4 = .ptr 2 t4 1 0 0 := by rw [he]; simp [upd,S.e4]
    have E7 : e' 7 = .ptr 4 t7 1 0 0 := by rw [he]; simp [upd,S.e7]
    have E8 : e' 8 = .fn 183 [.ptr 2 t4 1 0 0,.ptr 4 t7 1 0 0] := by rw [he]; simp [upd,S.e8]
    clear he
    refine blk_cut ?_
    rw [irW_assoc,irW_assoc,irW_assoc]
    refine seq_cut (fun e H c' => ∃ tx,HX f c tA t4 tW t7 tx hs W' rows at_ v x e H) ?_ ?_
    rotate_left
    · intro K2 hK2
      simp [E1,E4,E7,E8,hwr,hwr2,getW_of hrow,getW_of hx,getW_of hv,hwl,hat,hlen]
      refine ⟨by omega,hK2 _ _ _ ⟨c6,by simp [upd,E1],by simp [upd,E4],by simp [upd,E7],by simp [upd,E8],by simp [upd],by simp [upd],by simp [upd],by rw [hObj,hlen],?_⟩⟩
      refine ⟨?_,by omega,S.hr,S.inv,hv,hvp,?_,fun i hi => S.vis i (List.mem_append_left _ hi),?_⟩
      · have h1 := S.hW
        rw [hWl] at h1
        have h2 := congrArg (List.take W'.length) h1
        rw [List.take_take,Nat.min_eq_left (by omega)] at h2
        rw [h2]; simp
      · intro i u h1 h2
        rcases S.done i u h1 h2 with h | h
        · exact .inl h
        · rcases List.mem_append.1 h with h | h
          · exact .inr (.inl h)
          · exact .inr (.inr (List.mem_singleton.1 h))
      · have := S.few; rw [hWl] at this; omega
    clear E1 E4 E7 E8 e'
    intro e H c7 ⟨tx,X⟩
    obtain rfl := X.hH
    refine seq_cut (fun e H c' => (e 105 = .bool true ∧ ¬ okReach f.Code.list) ∨ (e 105 = .bool false ∧ ∃ hs W rows tW H'',H''.Sublist H ∧ W.length + 2 * unv hs < m ∧ HStp f c tA t4 tW t7 hs W rows e H'')) ?_ ?_
    · intro e H c8 h
      rcases h with ⟨h1,h2⟩ | ⟨h1,hs',W2,rows2,tW2,H2,h2,h3,h4⟩
      · simp [h1]
        rw [heights_false fun h => h2 h.2.2]
        exact fin_tj
      · simp [h1]
        exact hN _ _ _ _ _ h3 h2 ⟨hs',W2,rows2,tW2,rfl,h4⟩
    intro K3 hK3
    iterate 18 rw [irW_assoc]
    refine seq_cut (fun e H c' => (e 89 = .bool true ∧ ¬ okReach f.Code.list) ∨ (e 89 = .bool false ∧ insNeed x ≤ v ∧ ∃ hs W rows tW,W.length + 2 * unv hs < m ∧ HX f c tA t4 tW t7 tx hs W rows at_ v x e H ∧
      (isFinal x.Op = false → hs[at_ + 1]? = some (IntKind.i64.wrap (v + insChange x)) ∧ 0 ≤ IntKind.i64.wrap (v + insChange x)))) ?_ ?_
    rotate_left
    · intro K4 hK4
      unfold hObj
      simp [-irW_alt,X.e9,X.e10,X.e11,X.e8]
      refine call_fn0 (impl_insNeed x) .int fun _ _ => ?_
      by_cases hnd : v < insNeed x
      · simp [hnd]
        repeat' apply And.intro
        all_goals exact hK4 _ _ _ (.inl ⟨by simp [upd],need_bad hreach hx hnd⟩)
      simp [-irW_alt,X.e9,X.e10,X.e11,X.e8,hnd]
      refine call_fn0 (impl_isFinal _) .bool fun _ _ => ?_
      cases hfin : isFinal x.Op
      · simp [-irW_alt,X.e9,X.e10,X.e11,X.e8]
        refine alt_cut (fun e H c' => e 1 = .ptr 0 c 6 0 0 ∧ e 4 = .ptr 2 t4 1 0 0 ∧ e 7 = .ptr 4 t7 1 0 0 ∧ e 8 = .fn 183 [.ptr 2 t4 1 0 0,.ptr 4 t7 1 0 0] ∧ e 9 = .int .i64 (at_ : Int) ∧ e 10 = .ptr 5 tx 5 0 0 ∧ e 11 = .int .i64 v ∧
          e 72 = .bool false ∧ e 77 = .bool true ∧ e 78 = .fn 183 [.ptr 2 t4 1 0 0,.ptr 4 t7 1 0 0] ∧ e 80 = .int .i64 ((at_ : Int) + 1) ∧ e 84 = .int .i64 (IntKind.i64.wrap (v + insChange x)) ∧ H = hObj ⟨false,c,6,[f.enc]⟩ tA t4 tW t7 hs rows W'.length ⟨false,tx,5,[x.enc]⟩) ?_ ?_
        rotate_left
        · intro K5 hK5
          have hs1 : IntKind.i64.wrap ((at_ : Int) + 1) = (at_ : Int) + 1 := by rw [wrap64 (by omega) (by omega)]
          unfold hObj at hK5
          simp [X.e9,X.e10,X.e11,X.e8,hs1]
          repeat' first
            | apply And.intro
            | (refine call_fn0 (impl_insChange x) .int fun _ _ => ?_
               simp [X.e9,X.e10,X.e11,X.e8,hs1])
            | exact hK5 _ _ _ ⟨by simp [upd,X.e1],by simp [upd,X.e4],by simp [upd,X.e7],by simp [upd,X.e8],by simp [upd,X.e9],by simp [upd,X.e10],by simp [upd,X.e11],by simp [upd],by simp [upd],by simp [upd],by simp [upd],by simp [upd],rfl⟩
        intro e H c9 ⟨f1,f4,f7,f8,f9,f10,f11,f72,f77,f78,f80,f84,hH⟩
        subst hH
        simp [f72,f77,f78,f80,f84]
        refine ⟨body_give,?_⟩
        rw [show ((at_ : Int) + 1) = ((at_ + 1 : Nat) : Int) by omega]
        refine give_call X.p (hreach.step hx (.inl ⟨hfin,rfl,rfl⟩)) (fun hb c' => ?_) fun hs' W2 rows2 tW2 c' hlt Y G => ?_
        · simp [f72,f77]
          exact hK4 _ _ _ (.inl ⟨by simp [upd],hb⟩)
        · simp [f72,f77]
          refine hK4 _ _ _ (.inr ⟨by simp [upd],by omega,hs',W2,rows2,tW2,?_,⟨by simp [upd,f1],by simp [upd,f4],by simp [upd,f7],by simp [upd,f8],by simp [upd,f9],by simp [upd,f10],by simp [upd,f11],rfl,Y⟩,fun _ => ⟨G.at_,G.pos⟩⟩)
          rw [hm,hWl]; omega
      · simp
        repeat' apply And.intro
        all_goals
          refine hK4 _ _ _ (.inr ⟨by simp [upd],by omega,hs,W',rows,tW,?_,⟨by simp [upd,X.e1],by simp [upd,X.e4],by simp [upd,X.e7],by simp [upd,X.e8],by simp [upd,X.e9],by simp [upd,X.e10],by simp [upd,X.e11],rfl,X.p⟩,fun h => by rw [hfin] at h; cases h⟩)
          rw [hm,hWl]; omega
    clear X
    intro e H c9 h
    rcases h with ⟨h89,hbad⟩ | ⟨h89,hne,hs2,W2,rows2,tW2,hlt,X,hgo⟩
    · simp [h89]
      repeat' apply And.intro
      all_goals exact hK3 _ _ _ (.inl ⟨by simp [upd],hbad⟩)
    obtain rfl := X.hH
    unfold hObj
    simp [-irW_alt,h89,X.e10,X.e8,X.e11]
    refine call_fn0 (impl_hasTarget _) .bool fun _ _ => ?_
    cases htg : hasTarget x.Op
    · have hcl := X.p.close hx hne fun j w hsu => by
        rcases hsu with ⟨h1,rfl,rfl⟩ | ⟨h1,_⟩
        · exact hgo h1
        · rw [htg] at h1; cases h1
      simp [h89,X.e10,X.e8,X.e11]
      repeat' apply And.intro
      all_goals
        exact hK3 _ _ _ (.inr ⟨by simp [upd],hs2,W2,rows2,tW2,_,List.sublist_append_left [_,_,_,_,_] [_],hlt,⟨by simp [upd,X.e1],by simp [upd,X.e4],by simp [upd,X.e7],by simp [upd,X.e8],rfl,X.p.hW,X.p.hl,X.p.hr,X.p.inv,
          hcl,X.p.vis,Nat.le_trans X.p.few (by omega)⟩⟩)
    · have hA : 0 ≤ x.A ∧ x.A < f.Code.list.length := by
        have h1 : opA x f.Slots.list.length f.Code.list.length = true := by
          have := hix
          simp only [isIns,Bool.and_eq_true] at this
          exact this.1.1.1.2
        rw [opA_target htg] at h1
        simpa using h1
      obtain ⟨j,hj⟩ : ∃ j : Nat,x.A = (j : Int) := ⟨x.A.toNat,by omega⟩
      simp [-irW_alt,h89,X.e10,X.e8,X.e11]
      refine alt_cut (fun e H c' => e 1 = .ptr 0 c 6 0 0 ∧ e 4 = .ptr 2 t4 1 0 0 ∧ e 7 = .ptr 4 t7 1 0 0 ∧ e 8 = .fn 183 [.ptr 2 t4 1 0 0,.ptr 4 t7 1 0 0] ∧
        e 89 = .bool false ∧ e 93 = .bool true ∧ e 94 = .fn 183 [.ptr 2 t4 1 0 0,.ptr 4 t7 1 0 0] ∧ e 96 = .int .i64 (j : Int) ∧ e 101 = .int .i64 (IntKind.i64.wrap (v + targetChange x.Op)) ∧ H = hObj ⟨false,c,6,[f.enc]⟩ tA t4 tW2 t7 hs2 rows2 W2.length ⟨false,tx,5,[x.enc]⟩) ?_ ?_
      rotate_left
      · intro K5 hK5
        unfold hObj at hK5
        simp [X.e9,X.e10,X.e11,X.e8,hj]
        repeat' first
          | apply And.intro
          | (refine call_fn0 (impl_targetChange _) .int fun _ _ => ?_
             simp [X.e9,X.e10,X.e11,X.e8,hj])
          | exact hK5 _ _ _ ⟨by simp [upd,X.e1],by simp [upd,X.e4],by simp [upd,X.e7],by simp [upd,X.e8],by simp [upd,h89],by simp [upd],by simp [upd],by simp [upd],by simp [upd],rfl⟩
      intro e H c9 ⟨f1,f4,f7,f8,f89,f93,f94,f96,f101,hH⟩
      subst hH
      simp [f89,f93,f94,f96,f101]
      refine ⟨body_give,?_⟩
      refine give_call X.p (hreach.step hx (.inr ⟨htg,hj.symm,rfl⟩)) (fun hb c' => ?_) fun hs' W3 rows3 tW3 c' hlt2 Y G => ?_
      · simp [f89,f93]
        exact hK3 _ _ _ (.inl ⟨by simp [upd],hb⟩)
      · have hcl := Y.close hx hne fun j' w hsu => by
          rcases hsu with ⟨h1,rfl,rfl⟩ | ⟨h1,h2,rfl⟩
          · exact ⟨G.keep _ _ (hgo h1).1 (hgo h1).2,(hgo h1).2⟩
          · have : j' = j := by omega
            subst this
            exact ⟨G.at_,G.pos⟩
        unfold hObj
        simp [f89,f93]
        exact hK3 _ _ _ (.inr ⟨by simp [upd],hs',W3,rows3,tW3,_,List.sublist_append_left [_,_,_,_,_] [_],by omega,⟨by simp [upd,f1],by simp [upd,f4],by simp [upd,f7],by simp [upd,f8],rfl,Y.hW,Y.hl,Y.hr,Y.inv,
          hcl,Y.vis,Nat.le_trans Y.few (by omega)⟩⟩)
  intro e H c5 ⟨ok,x,e4,hx⟩
  simp [e4,getW_of hx]
  rw [heights_true ok]
  exact fin_tj
set_option maxRecDepth 100000
structure HStep (code : List TIns) (hs hs' : List Int) (a : Bool) : Prop where
  inv : HInv code hs'
  keep : ∀ (k : Nat) (v : Int),hs[k]? = some v → 0 ≤ v → hs'[k]? = some v
  same : a = false → hs' = hs
  unv : unv hs' + (if a then 1 else 0) ≤ unv hs
theorem HStep.refl {code : List TIns} {hs : List Int} (I : HInv code hs) : HStep code hs hs false := ⟨I,fun _ _ h _ => h,fun _ => rfl,by simp⟩
theorem give_step {code : List TIns} {hs : List Int} {j : Nat} {u w : Int} (I : HInv code hs) (hr : Reach code j w) (hg : giveOk hs j w) (hu : hs[j]? = some u) : HStep code hs (hs.set j w) (decide (u < 0)) ∧ (hs.set j w)[j]? = some w ∧ 0 ≤ w := by
  obtain ⟨I',G⟩ := give_inv I hr hg
  obtain ⟨_,u',hu',h⟩ := hg
  rw [hu] at hu'; cases hu'
  refine ⟨⟨I',G.keep,fun h2 => ?_,?_⟩,G.at_,G.pos⟩
  · rcases h with h | h
    · simp at h2; omega
    · subst h; exact set_same hu
  · by_cases h2 : u < 0
    · have := unv_new hu h2 G.pos
      simp [h2]; omega
    · have := unv_le hu h G.pos
      simp [h2]; exact this
theorem give_callS {code : List TIns} {b0 x5 : AObj} {tA n j c0 : Nat} {hs : List Int} {w : Int} {K : AV → List AObj → Nat → Prop} (hn : hs.length = n) (hm : n ≤ mx) (I : HInv code hs) (hr : Reach code j w)
    (hbad : ¬ okReach code → ∀ c',K (.tup [.bool false,.bool false]) [b0,⟨false,tA,1,hs.map encI⟩,x5] c')
    (hgood : ∀ a c',HStep code hs (hs.set j w) a → (hs.set j w)[j]? = some w → 0 ≤ w → K (.tup [.bool a,.bool true]) [b0,⟨false,tA,1,(hs.set j w).map encI⟩,x5] c') :
    CallW Tryz.prog 172 [.ref 1 tA 1 n,.int .i64 (j : Int),.int .i64 w] [b0,⟨false,tA,1,hs.map encI⟩,x5] c0 K := by
  subst hn
  refine call_mid (A := [b0]) (B := [⟨false,tA,1,hs.map encI⟩]) (C := [x5]) (give_spec (tA := tA) (j := j) (w := w) hm) (.cons .name (.cons (.refl _) (.cons (.refl _) .nil))) fun r B' c' hc hq => ?_
  have av : ∀ (l : List Int) o,o ∈ ([⟨false,tA,1,l.map encI⟩] : List AObj) → AvRows [] o := fun l o ho => by
    rw [List.mem_singleton.1 ho]
    exact avRows_mem fun row h a ha => by
      obtain ⟨n,_,rfl⟩ := List.mem_map.1 h
      rw [List.mem_singleton.1 ha]; exact .int
  have avt : ∀ a b : Bool,Av [] (.tup [.bool a,.bool b]) := fun a b => .tup fun j x hx => by
    match j with
    | 0 => simp at hx; subst hx; exact .bool
    | 1 => simp at hx; subst hx; exact .bool
    | j + 2 => simp at hx
  rcases hq with ⟨h1,rfl,rfl⟩ | ⟨h1,⟨u,h2,rfl⟩,rfl⟩
  · exact ⟨rfl,avt _ _,av _,hbad (give_bad I hr h1) c'⟩
  · obtain ⟨k1,k2,k3⟩ := give_step I hr h1 h2
    exact ⟨rfl,avt _ _,av _,hgood _ _ k1 k2 k3⟩
structure ES (c tA n tx i : Nat) (more : Bool) (e : Env) : Prop where
  e1 : e 1 = .ptr 0 c 6 0 0
  e4 : e 4 = .ref 1 tA 1 n
  e6 : e 6 = .bool more
  e7 : e 7 = .int .i64 (i : Int)
  e8 : e 8 = .ptr 2 tx 5 0 0
theorem spec_heights {f : TFunc} (hf : f.ok) (hn : f.Code.list.length ≤ 8000) : Fnc Tryz.prog 136 [.agg f.enc] (.tup [.junk,.bool (heights f.Slots.list.length f.Code.list)]) := by
  refine fn_of c136 (by simp [F136]) fun c => ?_
  unfold F136
  refine seq_cut (fun e H c' => e 1 = .ptr 0 c 6 0 0 ∧ H = [⟨false,c,6,[f.enc]⟩]) ?_ ?_
  rotate_left
  · intro K hK
    simp
    exact hK _ _ _ ⟨rfl,rfl⟩
  intro e H c1 ⟨e1,hH⟩
  subst hH
  refine seq_cut (fun e H c' => ∃ tA,e 1 = .ptr 0 c 6 0 0 ∧ e 4 = .ref 1 tA 1 0 ∧ H = [⟨false,c,6,[f.enc]⟩,⟨false,tA,1,[]⟩]) ?_ ?_
  rotate_left
  · intro K hK
    simp [e1]
    exact hK _ _ _ ⟨_,by simp [upd,e1],rfl,rfl⟩
  clear e1 e
  intro e H c2 ⟨tA,e1,e4,hH⟩
  subst hH
  have code_ok : ∀ x,x ∈ f.Code.list → x.S.length ≤ mx ∧ x.T.length ≤ mx := fun x hx => hf.2.2.2.2.2 x hx
  refine seq_cut (fun e H c' => ∃ tA,e 1 = .ptr 0 c 6 0 0 ∧ e 4 = .ref 1 tA 1 f.Code.list.length ∧ (∀ x,x ∈ f.Code.list → isIns x f.Slots.list.length f.Code.list.length = true) ∧ H = [⟨false,c,6,[f.enc]⟩,⟨false,tA,1,(List.replicate f.Code.list.length (-1)).map encI⟩]) ?_ ?_
  rotate_left
  · intro K hK
    simp [e1]
    refine loop_drop f.Code.list.length (fun i e H c' => ∃ tA,e 1 = .ptr 0 c 6 0 0 ∧ e 4 = .ref 1 tA 1 i ∧ e 5 = .int .i64 i ∧ (∀ k x,k < i → f.Code.list[k]? = some x → isIns x f.Slots.list.length f.Code.list.length = true) ∧
      H = [⟨false,c,6,[f.enc]⟩,⟨false,tA,1,List.replicate i [.int .i64 (-1)]⟩]) ⟨tA,by simp [upd,e1],by simp [upd,e4],by simp [upd],fun k x hk => absurd hk (Nat.not_lt_zero _),rfl⟩ ?_
    intro i e H c' hi ⟨tA,e1,e4,e5,hp,hH⟩ N hN
    subst hH
    by_cases h : i < f.Code.list.length
    · have hx : f.Code.list[i]? = some f.Code.list[i] := List.getElem?_eq_getElem h
      generalize f.Code.list[i] = x at hx
      simp [e1,e4,e5,h,getW_of hx]
      have hxk : x ∈ f.Code.list := List.mem_of_getElem? hx
      have hxo := code_ok x hxk
      refine callF_fn0 (spec_isIns hxo.1 hxo.2 _ _) .bool fun _ _ => ?_
      cases hs : isIns x f.Slots.list.length f.Code.list.length
      · simp
        rw [heights_false fun hh => by have := hh.2.1 x hxk; rw [hs] at this; cases this]
        exact fin_tj
      · simp [e1,e4,e5,h]
        refine ⟨by omega,by unfold mx; omega,?_⟩
        exact hN _ _ _ _ h (List.sublist_append_left [_,_] [_]) ⟨_,by simp [upd,e1],rfl,by simp [upd]; exact step64 (n := f.Code.list.length) (by unfold mx; omega) h,fun k y hk hy => by
          rcases Nat.lt_or_eq_of_le (Nat.le_of_lt_succ hk) with h1 | h1
          · exact hp k y h1 hy
          · subst h1; rw [hx] at hy; cases hy; exact hs,by rw [List.replicate_succ']⟩
    · have hie : i = f.Code.list.length := by omega
      subst hie
      simp [e1,e4,e5]
      exact hK _ _ _ ⟨tA,by simp [upd,e1],by simp [upd,e4],fun x hx => by
        obtain ⟨k,hk,hy⟩ := List.getElem_of_mem hx
        exact hp k x hk (by rw [List.getElem?_eq_getElem hk,hy]),by simp [encI]⟩
  clear e1 e4 e
  intro e H c3 ⟨tA,e1,e4,hi,hH⟩
  subst hH
  have hl0 : (List.replicate f.Code.list.length (-1 : Int)).length = f.Code.list.length := List.length_replicate
  have hg0 : ∀ (i : Nat) (v : Int),(List.replicate f.Code.list.length (-1 : Int))[i]? = some v → v = -1 := fun i v h => by
    rw [List.getElem?_replicate] at h
    split at h
    · cases h; rfl
    · cases h
  generalize List.replicate f.Code.list.length (-1 : Int) = hs0 at hl0 hg0
  by_cases h0 : f.Code.list.length = 0
  · simp [e1,e4,h0]
    rw [heights_false fun h => by have := h.1; omega]
    exact fin_tj
  have hpos : 0 < f.Code.list.length := by omega
  refine seq_cut (fun e H c' => e 1 = .ptr 0 c 6 0 0 ∧ e 4 = .ref 1 tA 1 f.Code.list.length ∧ H = [⟨false,c,6,[f.enc]⟩,⟨false,tA,1,hs0.map encI⟩]) ?_ ?_
  rotate_left
  · intro K hK
    simp [e1,e4,h0]
    exact hK _ _ _ ⟨by simp [upd,e1],by simp [upd,e4],rfl⟩
  clear e1 e4 e
  intro e H c3 ⟨e1,e4,hH⟩
  subst hH
  have hx : hs0[0]? = some (-1) := by
    have hx0 : hs0[0]? = some hs0[0] := List.getElem?_eq_getElem (by omega)
    rw [hx0,hg0 0 _ hx0]
  have hget : ∀ (i : Nat) (v : Int),(hs0.set 0 0)[i]? = some v → (i = 0 ∧ v = 0) ∨ v = -1 := fun i v h => by
    by_cases e : i = 0
    · subst e
      rw [List.getElem?_set_self (by omega)] at h
      exact .inl ⟨rfl,(Option.some.inj h).symm⟩
    · rw [List.getElem?_set_ne (Ne.symm e)] at h
      exact .inr (hg0 i v h)
  refine seq_cut (fun e H c' => e 1 = .ptr 0 c 6 0 0 ∧ e 4 = .ref 1 tA 1 f.Code.list.length ∧ H = [⟨false,c,6,[f.enc]⟩,⟨false,tA,1,(hs0.set 0 0).map encI⟩]) ?_ ?_
  rotate_left
  · intro K hK
    simp [e1,e4,hpos,getW_of hx]
    exact hK _ _ _ ⟨by simp [upd,e1],by simp [upd,e4],by rw [map_setI]⟩
  clear e1 e4 e
  intro e H c3 ⟨e1,e4,hH⟩
  subst hH
  have hl1 : (hs0.set 0 0).length = f.Code.list.length := by rw [List.length_set,hl0]
  have hz : (hs0.set 0 0)[0]? = some 0 := by rw [List.getElem?_set_self (by omega)]
  generalize hs0.set 0 0 = hs1 at hget hl1 hz ⊢
  clear hl0 hg0 hx hs0
  have I1 : HInv f.Code.list hs1 := ⟨hl1,fun i v hv => by
    rcases hget i v hv with ⟨rfl,rfl⟩ | h
    · exact .inr ⟨Int.le_refl _,by omega,.zero⟩
    · exact .inl h,hz⟩
  refine seq_cut (fun e H c' => e 1 = .ptr 0 c 6 0 0 ∧ e 4 = .ref 1 tA 1 f.Code.list.length ∧ e 6 = .bool true ∧ H = [⟨false,c,6,[f.enc]⟩,⟨false,tA,1,hs1.map encI⟩]) ?_ ?_
  rotate_left
  · intro K hK
    simp
    exact hK _ _ _ ⟨by simp [upd,e1],by simp [upd,e4],by simp [upd],rfl⟩
  clear e1 e4 e
  intro e H c3 ⟨e1,e4,e6,hH⟩
  subst hH
  refine seq_cut (fun e H c' => okHeights f.Slots.list.length f.Code.list) ?_ ?_
  · intro e H c5 ok
    simp
    rw [heights_true ok]
    exact fin_tj
  intro K hK
  refine blk_cut (loop_meas (fun m e H c' => ∃ hs more,m = 2 * unv hs + (if more then 1 else 0) ∧ e 1 = .ptr 0 c 6 0 0 ∧ e 4 = .ref 1 tA 1 f.Code.list.length ∧ e 6 = .bool more ∧ HInv f.Code.list hs ∧ (more = false → ∀ i,DoneAt f.Code.list hs i) ∧
    H = [⟨false,c,6,[f.enc]⟩,⟨false,tA,1,hs.map encI⟩]) ⟨hs1,true,rfl,e1,e4,e6,I1,fun h => (by cases h),rfl⟩ ?_)
  clear e1 e4 e6 I1 hget hl1 hz hs1 e
  intro m e H c5 ⟨hs,more,hm,e1,e4,e6,I,hd,hH⟩ N hN
  subst hH
  cases more
  · simp [e6]
    exact hK _ _ _ ⟨hpos,hi,done_ok I (hd rfl)⟩
  clear hd
  simp only [if_true] at hm
  refine seq_cut (fun e H c' => e 1 = .ptr 0 c 6 0 0 ∧ e 4 = .ref 1 tA 1 f.Code.list.length ∧ H = [⟨false,c,6,[f.enc]⟩,⟨false,tA,1,hs.map encI⟩]) ?_ ?_
  rotate_left
  · intro K2 hK2
    simp [e6]
    exact hK2 _ _ _ ⟨by simp [upd,e1],by simp [upd,e4],rfl⟩
  clear e1 e4 e6 e
  intro e H c6 ⟨e1,e4,hH⟩
  subst hH
  refine blk_cut ?_
  rw [irW_assoc]
  refine seq_cut (fun e H c' => e 1 = .ptr 0 c 6 0 0 ∧ e 4 = .ref 1 tA 1 f.Code.list.length ∧ e 6 = .bool false ∧ e 7 = .int .i64 0 ∧ H = [⟨false,c,6,[f.enc]⟩,⟨false,tA,1,hs.map encI⟩]) ?_ ?_
  rotate_left
  · intro K2 hK2
    simp
    exact hK2 _ _ _ ⟨by simp [upd,e1],by simp [upd,e4],by simp [upd],by simp [upd],rfl⟩
  clear e1 e4 e
  intro e H c6 ⟨e1,e4,e6,e7,hH⟩
  subst hH
  refine blk_cut (loop_drop f.Code.list.length (fun i e H c' => ∃ hs' more,e 1 = .ptr 0 c 6 0 0 ∧ e 4 = .ref 1 tA 1 f.Code.list.length ∧ e 6 = .bool more ∧ e 7 = .int .i64 i ∧ HInv f.Code.list hs' ∧ unv hs' + (if more then 1 else 0) ≤ unv hs ∧
    (more = false → ∀ k,k < i → DoneAt f.Code.list hs' k) ∧ H = [⟨false,c,6,[f.enc]⟩,⟨false,tA,1,hs'.map encI⟩]) ⟨hs,false,e1,e4,e6,e7,I,by simp,fun _ k hk => absurd hk (Nat.not_lt_zero _),rfl⟩ ?_)
  clear e1 e4 e6 e7 I e
  intro i e H c7 hin ⟨hs2,more,e1,e4,e6,e7,I,hu,hd,hH⟩ N2 hN2
  subst hH
  have hlen := I.len
  by_cases h : i < f.Code.list.length
  · obtain ⟨x,hx⟩ : ∃ x,f.Code.list[i]? = some x := ⟨_,List.getElem?_eq_getElem h⟩
    obtain ⟨v,hv⟩ : ∃ v,hs2[i]? = some v := ⟨_,List.getElem?_eq_getElem (by omega)⟩
    have hxm := List.mem_of_getElem? hx
    have hix := hi x hxm
    refine seq_cut (fun e H c' => e 1 = .ptr 0 c 6 0 0 ∧ e 4 = .ref 1 tA 1 f.Code.list.length ∧ e 6 = .bool more ∧ e 7 = .int .i64 i ∧ H = [⟨false,c,6,[f.enc]⟩,⟨false,tA,1,hs2.map encI⟩]) ?_ ?_
    rotate_left
    · intro K2 hK2
      simp [e4,e7,h]
      exact hK2 _ _ _ ⟨by simp [upd,e1],by simp [upd,e4],by simp [upd,e6],by simp [upd,e7],rfl⟩
    clear e1 e4 e6 e7 e
    intro e H c8 ⟨e1,e4,e6,e7,hH⟩
    subst hH
    refine seq_cut (fun e H c' => ∃ hs' more' G,e 1 = .ptr 0 c 6 0 0 ∧ e 4 = .ref 1 tA 1 f.Code.list.length ∧ e 6 = .bool more' ∧ e 7 = .int .i64 i ∧ HInv f.Code.list hs' ∧ unv hs' + (if more' then 1 else 0) ≤ unv hs ∧
      (more' = false → ∀ k,k < i + 1 → DoneAt f.Code.list hs' k) ∧ H = [⟨false,c,6,[f.enc]⟩,⟨false,tA,1,hs'.map encI⟩] ++ G) ?_ ?_
    · clear e1 e4 e6 e7 e
      intro e H c9 ⟨hs',more',G,e1,e4,e6,e7,I',hu',hd',hH⟩
      subst hH
      simp [e7]
      exact hN2 _ _ _ _ h (List.sublist_append_left _ _) ⟨hs',more',by simp [upd,e1],by simp [upd,e4],by simp [upd,e6],by simp [upd]; exact step64 (n := f.Code.list.length) (by unfold mx; omega) h,I',hu',hd',rfl⟩
    intro K2 hK2
    refine blk_cut ?_
    refine seq_cut (fun e H c' => ∃ tx,ES c tA f.Code.list.length tx i more e ∧ H = [⟨false,c,6,[f.enc]⟩,⟨false,tA,1,hs2.map encI⟩,⟨false,tx,5,[x.enc]⟩]) ?_ ?_
    rotate_left
    · intro K3 hK3
      simp [e1,e7,h,getW_of hx]
      exact hK3 _ _ _ ⟨_,⟨by simp [upd,e1],by simp [upd,e4],by simp [upd,e6],by simp [upd,e7],rfl⟩,rfl⟩
    clear e1 e4 e6 e7 e
    intro e H c9 ⟨tx,S,hH⟩
    subst hH
    by_cases hneg : v < 0
    · simp [S.e4,S.e7,h,getW_of hv,hneg]
      refine hK2 _ _ _ ⟨hs2,more,[⟨false,tx,5,[x.enc]⟩],by simp [upd,S.e1],by simp [upd,S.e4],by simp [upd,S.e6],by simp [upd,S.e7],I,hu,fun hm k hk => ?_,rfl⟩
      rcases Nat.lt_or_eq_of_le (Nat.le_of_lt_succ hk) with h1 | h1
      · exact hd hm k h1
      · subst h1
        intro v' x' h2 h3
        rw [hv] at h2; cases h2; omega
    have hvp : 0 ≤ v := by omega
    have hreach : Reach f.Code.list i v := by
      rcases I.range i v hv with h | h
      · omega
      · exact h.2.2
    rw [irW_assoc,irW_assoc]
    refine seq_cut (fun e H c' => ES c tA f.Code.list.length tx i more e ∧ e 9 = .bool false ∧ e 10 = .bool true ∧ insNeed x ≤ v ∧ H = [⟨false,c,6,[f.enc]⟩,⟨false,tA,1,hs2.map encI⟩,⟨false,tx,5,[x.enc]⟩]) ?_ ?_
    rotate_left
    · intro K3 hK3
      simp [S.e4,S.e7,S.e8,h,getW_of hv,hneg]
      refine callF_fn0 (spec_insNeed x) .int fun _ _ => ?_
      by_cases hnd : v < insNeed x
      · simp [S.e4,S.e7,S.e8,h,getW_of hv,hnd]
        rw [heights_false fun hh => need_bad hreach hx hnd hh.2.2]
        exact fin_tj
      · simp [S.e4,S.e7,S.e8,h,getW_of hv,hnd]
        exact hK3 _ _ _ ⟨⟨by simp [upd,S.e1],by simp [upd,S.e4],by simp [upd,S.e6],by simp [upd,S.e7],by simp [upd,S.e8]⟩,by simp [upd],by simp [upd],by omega,rfl⟩
    clear S e
    intro e H c9 ⟨S,e9,e10,hne,hH⟩
    subst hH
    have hvx := hv
    refine seq_cut (fun e H c' => ∃ hs3 a ok,ES c tA f.Code.list.length tx i more e ∧ e 9 = .bool a ∧ e 10 = .bool ok ∧ HStep f.Code.list hs2 hs3 a ∧ (ok = false → ¬ okReach f.Code.list) ∧
      (ok = true → isFinal x.Op = false → hs3[i + 1]? = some (IntKind.i64.wrap (v + insChange x)) ∧ 0 ≤ IntKind.i64.wrap (v + insChange x)) ∧ H = [⟨false,c,6,[f.enc]⟩,⟨false,tA,1,hs3.map encI⟩,⟨false,tx,5,[x.enc]⟩]) ?_ ?_
    rotate_left
    · intro K3 hK3
      simp [-irW_alt,S.e8]
      refine call_fn0 (spec_isFinal _) .bool fun _ _ => ?_
      cases hfin : isFinal x.Op
      · simp [-irW_alt,S.e4,S.e7,S.e8,h]
        refine alt_cut (fun e H c' => ES c tA f.Code.list.length tx i more e ∧ e 74 = .ref 1 tA 1 f.Code.list.length ∧ e 76 = .int .i64 ((i : Int) + 1) ∧ e 83 = .int .i64 (IntKind.i64.wrap (v + insChange x)) ∧ H = [⟨false,c,6,[f.enc]⟩,⟨false,tA,1,hs2.map encI⟩,⟨false,tx,5,[x.enc]⟩]) ?_ ?_
        rotate_left
        · intro K5 hK5
          have hs1 : IntKind.i64.wrap ((i : Int) + 1) = (i : Int) + 1 := by rw [wrap64 (by omega) (by omega)]
          simp [S.e4,S.e7,S.e8,hs1,getW_of hv]
          repeat' first
            | apply And.intro
            | (refine call_fn0 (spec_insChange x) .int fun _ _ => ?_
               simp [S.e4,S.e7,S.e8,hs1,getW_of hv])
            | exact hK5 _ _ _ ⟨⟨by simp [upd,S.e1],by simp [upd,S.e4],by simp [upd,S.e6],by simp [upd,S.e7],by simp [upd,S.e8]⟩,by simp [upd],by simp [upd],by simp [upd],rfl⟩
        clear S
        intro e H c9 ⟨S,f74,f76,f83,hH⟩
        subst hH
        simp [f74,f76,f83]
        rw [show ((i : Int) + 1) = ((i + 1 : Nat) : Int) by omega]
        refine give_callS I.len (by unfold mx; omega) I (hreach.step hx (.inl ⟨hfin,rfl,rfl⟩)) (fun hb c' => ?_) fun a c' Y hj hw => ?_
        · simp
          exact hK3 _ _ _ ⟨hs2,false,false,⟨by simp [upd,S.e1],by simp [upd,S.e4],by simp [upd,S.e6],by simp [upd,S.e7],by simp [upd,S.e8]⟩,by simp [upd],by simp [upd],.refl I,fun _ => hb,fun h => (by cases h),rfl⟩
        · generalize hs2.set (i + 1) (IntKind.i64.wrap (v + insChange x)) = hs3 at Y hj
          simp
          exact hK3 _ _ _ ⟨hs3,a,true,⟨by simp [upd,S.e1],by simp [upd,S.e4],by simp [upd,S.e6],by simp [upd,S.e7],by simp [upd,S.e8]⟩,by simp [upd],by simp [upd],Y,fun h => (by cases h),fun _ _ => ⟨hj,hw⟩,rfl⟩
      · simp
        exact hK3 _ _ _ ⟨hs2,false,true,⟨by simp [upd,S.e1],by simp [upd,S.e4],by simp [upd,S.e6],by simp [upd,S.e7],by simp [upd,S.e8]⟩,by simp [upd,e9],by simp [upd,e10],.refl I,fun h => (by cases h),fun _ h => (by rw [hfin] at h; cases h),rfl⟩
    clear S e9 e10 e
    intro e H c9 ⟨hs3,a,ok,S,e9,e10,Y,hbad,hgo,hH⟩
    subst hH
    have hv3 := Y.keep _ _ hv hvp
    rw [irW_assoc]
    refine seq_cut (fun e H c' => ∃ hs4 b fine,ES c tA f.Code.list.length tx i more e ∧ e 9 = .bool a ∧ e 10 = .bool ok ∧ e 11 = .bool b ∧ e 12 = .bool fine ∧ HStep f.Code.list hs3 hs4 b ∧ (fine = false → ¬ okReach f.Code.list) ∧
      (fine = true → ∀ (j : Nat) (w : Int),hasTarget x.Op = true → (j : Int) = x.A → w = IntKind.i64.wrap (v + targetChange x.Op) → hs4[j]? = some w ∧ 0 ≤ w) ∧ H = [⟨false,c,6,[f.enc]⟩,⟨false,tA,1,hs4.map encI⟩,⟨false,tx,5,[x.enc]⟩]) ?_ ?_
    rotate_left
    · intro K3 hK3
      simp [-irW_alt,S.e8]
      refine call_fn0 (spec_hasTarget _) .bool fun _ _ => ?_
      cases htg : hasTarget x.Op
      · simp
        exact hK3 _ _ _ ⟨hs3,false,true,⟨by simp [upd,S.e1],by simp [upd,S.e4],by simp [upd,S.e6],by simp [upd,S.e7],by simp [upd,S.e8]⟩,by simp [upd,e9],by simp [upd,e10],by simp [upd],by simp [upd],.refl Y.inv,fun h => (by cases h),fun _ j w h => (by rw [htg] at h; cases h),rfl⟩
      · have hA : 0 ≤ x.A ∧ x.A < f.Code.list.length := by
          have h1 : opA x f.Slots.list.length f.Code.list.length = true := by
            have := hix
            simp only [isIns,Bool.and_eq_true] at this
            exact this.1.1.1.2
          rw [opA_target htg] at h1
          simpa using h1
        obtain ⟨j,hj⟩ : ∃ j : Nat,x.A = (j : Int) := ⟨x.A.toNat,by omega⟩
        simp [-irW_alt,S.e4,S.e7,S.e8,h]
        refine alt_cut (fun e H c' => ES c tA f.Code.list.length tx i more e ∧ e 9 = .bool a ∧ e 10 = .bool ok ∧ e 91 = .ref 1 tA 1 f.Code.list.length ∧ e 93 = .int .i64 (j : Int) ∧ e 101 = .int .i64 (IntKind.i64.wrap (v + targetChange x.Op)) ∧ H = [⟨false,c,6,[f.enc]⟩,⟨false,tA,1,hs3.map encI⟩,⟨false,tx,5,[x.enc]⟩]) ?_ ?_
        rotate_left
        · intro K5 hK5
          simp [S.e4,S.e7,S.e8,hj,getW_of hv3]
          repeat' first
            | apply And.intro
            | (refine call_fn0 (spec_targetChange _) .int fun _ _ => ?_
               simp [S.e4,S.e7,S.e8,hj,getW_of hv3])
            | exact hK5 _ _ _ ⟨⟨by simp [upd,S.e1],by simp [upd,S.e4],by simp [upd,S.e6],by simp [upd,S.e7],by simp [upd,S.e8]⟩,by simp [upd,e9],by simp [upd,e10],by simp [upd],by simp [upd],by simp [upd],rfl⟩
        clear S e9 e10
        intro e H c9 ⟨S,e9,e10,f91,f93,f101,hH⟩
        subst hH
        simp [f91,f93,f101]
        refine give_callS Y.inv.len (by unfold mx; omega) Y.inv (hreach.step hx (.inr ⟨htg,hj.symm,rfl⟩)) (fun hb c' => ?_) fun b c' Z hj2 hw => ?_
        · simp
          exact hK3 _ _ _ ⟨hs3,false,false,⟨by simp [upd,S.e1],by simp [upd,S.e4],by simp [upd,S.e6],by simp [upd,S.e7],by simp [upd,S.e8]⟩,by simp [upd,e9],by simp [upd,e10],by simp [upd],by simp [upd],.refl Y.inv,fun _ => hb,fun h => (by cases h),rfl⟩
        · generalize hs3.set j (IntKind.i64.wrap (v + targetChange x.Op)) = hs4 at Z hj2
          simp
          exact hK3 _ _ _ ⟨hs4,b,true,⟨by simp [upd,S.e1],by simp [upd,S.e4],by simp [upd,S.e6],by simp [upd,S.e7],by simp [upd,S.e8]⟩,by simp [upd,e9],by simp [upd,e10],by simp [upd],by simp [upd],Z,fun h => (by cases h),fun _ j' w _ h2 h3 => by
            have : j' = j := by omega
            subst this; subst h3; exact ⟨hj2,hw⟩,rfl⟩
    clear S e9 e10 e
    intro e H c9 ⟨hs4,b,fine,S,e9,e10,e11,e12,Z,hbad2,hgo2,hH⟩
    subst hH
    cases ok
    · simp [e10]
      rw [heights_false fun hh => hbad rfl hh.2.2]
      exact fin_tj
    cases fine
    · simp [e10,e12]
      rw [heights_false fun hh => hbad2 rfl hh.2.2]
      exact fin_tj
    have hend : (more || a || b) = false → ∀ k,k < i + 1 → DoneAt f.Code.list hs4 k := fun hm k hk => by
      simp only [Bool.or_eq_false_iff] at hm
      have q1 : hs3 = hs2 := Y.same hm.1.2
      have q2 : hs4 = hs3 := Z.same hm.2
      rcases Nat.lt_or_eq_of_le (Nat.le_of_lt_succ hk) with h1 | h1
      · rw [q2,q1]; exact hd hm.1.1 k h1
      · subst h1
        intro v' x' k1 k2 k3
        rw [q2,q1,hv] at k1; cases k1
        rw [hx] at k3; cases k3
        refine ⟨hne,fun j w hsu => ?_⟩
        rcases hsu with ⟨s1,rfl,rfl⟩ | ⟨s1,s2,rfl⟩
        · rw [q2]; exact hgo rfl s1
        · exact hgo2 rfl j _ s1 s2 rfl
    have hcount : unv hs4 + (if (more || a || b) = true then 1 else 0) ≤ unv hs := by
      have c1 := Y.unv; have c2 := Z.unv
      cases more <;> cases a <;> cases b <;> simp at hu c1 c2 ⊢ <;> omega
    cases hmm : more
    · cases haa : a
      · rw [hmm] at S; rw [haa] at e9
        simp [S.e6,e9,e10,e11,e12]
        refine hK2 _ _ _ ⟨hs4,b,[⟨false,tx,5,[x.enc]⟩],by simp [upd,S.e1],by simp [upd,S.e4],by simp [upd],by simp [upd,S.e7],Z.inv,?_,?_,rfl⟩
        · rw [hmm,haa] at hcount; simpa using hcount
        · rw [hmm,haa] at hend; simpa using hend
      · rw [hmm] at S; rw [haa] at e9
        simp [S.e6,e9,e10,e11,e12]
        refine hK2 _ _ _ ⟨hs4,true,[⟨false,tx,5,[x.enc]⟩],by simp [upd,S.e1],by simp [upd,S.e4],by simp [upd],by simp [upd,S.e7],Z.inv,?_,fun h => (by cases h),rfl⟩
        rw [hmm,haa] at hcount; simpa using hcount
    · rw [hmm] at S
      simp [S.e6,e9,e10,e11,e12]
      refine hK2 _ _ _ ⟨hs4,true,[⟨false,tx,5,[x.enc]⟩],by simp [upd,S.e1],by simp [upd,S.e4],by simp [upd],by simp [upd,S.e7],Z.inv,?_,fun h => (by cases h),rfl⟩
      rw [hmm] at hcount; simpa using hcount
  · have hie : i = f.Code.list.length := by omega
    subst hie
    simp [e4,e7]
    refine hN _ _ _ _ _ ?_ (List.Sublist.refl _) ⟨hs2,more,rfl,by simp [upd,e1],by simp [upd,e4],by simp [upd,e6],I,fun hm i => ?_,rfl⟩
    · rw [hm]; cases more <;> simp at hu ⊢ <;> omega
    · by_cases hi2 : i < f.Code.list.length
      · exact hd hm i hi2
      · intro v x hv
        exact absurd (List.getElem?_eq_some_iff.1 hv).1 (by omega)
set_option maxRecDepth 100000
def mkRows (l : List (List UInt8 × AV)) : List (List AV) := l.map fun p => [.str p.1,p.2]
theorem mfS_no {k : List UInt8} : ∀ (l : List (List UInt8 × AV)) (i : Nat),k ∉ l.map Prod.fst → mfind (.str k) (mkRows l) i = some none
  | [],_,_ => rfl
  | p :: l,i,h => by
    simp only [List.map_cons,List.mem_cons,not_or] at h
    have e : keyEq (.str k) (.str p.1) = some false := by simp only [keyEq]; rw [beq_eq_false_iff_ne.2 h.1]
    simp only [mkRows,List.map_cons,mfind,e]
    exact mfS_no l (i + 1) h.2
theorem mfS_yes {k : List UInt8} : ∀ (l : List (List UInt8 × AV)) (i : Nat),k ∈ l.map Prod.fst → ∃ j v,mfind (.str k) (mkRows l) i = some (some (j,v)) ∧ (k,v) ∈ l
  | [],_,h => by simp at h
  | p :: l,i,h => by
    by_cases hk : k = p.1
    · have e : keyEq (.str k) (.str p.1) = some true := by simp only [keyEq]; rw [beq_iff_eq.2 hk]
      exact ⟨i,p.2,by simp only [mkRows,List.map_cons,mfind,e],by rw [hk]; exact List.mem_cons_self ..⟩
    · have e : keyEq (.str k) (.str p.1) = some false := by simp only [keyEq]; rw [beq_eq_false_iff_ne.2 hk]
      simp only [List.map_cons,List.mem_cons] at h
      obtain ⟨j,v,h1,h2⟩ := mfS_yes l (i + 1) (h.resolve_left hk)
      exact ⟨j,v,by simp only [mkRows,List.map_cons,mfind,e]; exact h1,List.mem_cons_of_mem _ h2⟩
theorem mkRows_len (l : List (List UInt8 × AV)) : (mkRows l).length = l.length := by simp [mkRows]
theorem mkRows_snoc (l : List (List UInt8 × AV)) (k : List UInt8) (v : AV) : mkRows l ++ [[.str k,v]] = mkRows (l ++ [(k,v)]) := by simp [mkRows]
theorem lookup_no {H : List AObj} {d : TypeDesc} {z k : AV} {i tag : Nat} {rows : List (List AV)} {w : Nat} {K : AV → Prop} (hd : keyFits d k = true) (ho : H[i]? = some ⟨true,tag,w,rows⟩) (hm : mfind k rows 0 = some none) (h : K z) : lookupW d z false (.mref i tag) k H K :=
  ⟨hd,_,ho,rfl,rfl,by rw [hm]; exact h⟩
theorem lookup_yes {H : List AObj} {d : TypeDesc} {z k v : AV} {i tag j : Nat} {rows : List (List AV)} {w : Nat} {K : AV → Prop} (hd : keyFits d k = true) (ho : H[i]? = some ⟨true,tag,w,rows⟩) (hm : mfind k rows 0 = some (some (j,v))) (h : K v) : lookupW d z false (.mref i tag) k H K :=
  ⟨hd,_,ho,rfl,rfl,by rw [hm]; exact h⟩
theorem lookup2_no {H : List AObj} {d : TypeDesc} {z k : AV} {i tag : Nat} {rows : List (List AV)} {w : Nat} {K : AV → Prop} (hd : keyFits d k = true) (ho : H[i]? = some ⟨true,tag,w,rows⟩) (hm : mfind k rows 0 = some none) (h : K (.tup [z,.bool false])) : lookupW d z true (.mref i tag) k H K :=
  ⟨hd,_,ho,rfl,rfl,by rw [hm]; exact h⟩
theorem lookup2_yes {H : List AObj} {d : TypeDesc} {z k v : AV} {i tag j : Nat} {rows : List (List AV)} {w : Nat} {K : AV → Prop} (hd : keyFits d k = true) (ho : H[i]? = some ⟨true,tag,w,rows⟩) (hm : mfind k rows 0 = some (some (j,v))) (h : K (.tup [v,.bool true])) : lookupW d z true (.mref i tag) k H K :=
  ⟨hd,_,ho,rfl,rfl,by rw [hm]; exact h⟩
theorem mupd_no {H : List AObj} {c : Nat} {d : TypeDesc} {k v : AV} {i tag : Nat} {rows : List (List AV)} {w : Nat} {K : AV → List AObj → Nat → Prop} (hd : keyFits d k = true) (ho : H[i]? = some ⟨true,tag,w,rows⟩) (hm : mfind k rows 0 = some none) (hl : rows.length < mx) (h : K .und (H.set i ⟨true,tag,w,rows ++ [[k,v]]⟩) c) : mupdW d (.mref i tag) k v H c K :=
  ⟨hd,_,ho,rfl,rfl,by rw [hm]; exact ⟨hl,h⟩⟩
def seenT (l : List (List UInt8)) : List (List AV) := mkRows (l.map fun s => (s,.bool true))
theorem seenT_nil : seenT [] = [] := rfl
theorem seenT_no {l : List (List UInt8)} {k : List UInt8} (h : k ∉ l) : mfind (.str k) (seenT l) 0 = some none := mfS_no _ 0 (by simpa using h)
theorem seenT_yes {l : List (List UInt8)} {k : List UInt8} (h : k ∈ l) : ∃ j,mfind (.str k) (seenT l) 0 = some (some (j,.bool true)) := by
  obtain ⟨j,v,h1,h2⟩ := mfS_yes (l.map fun s => (s,.bool true)) 0 (by simpa using h)
  simp only [List.mem_map,Prod.mk.injEq] at h2
  obtain ⟨_,_,_,rfl⟩ := h2
  exact ⟨j,h1⟩
theorem seenT_len (l : List (List UInt8)) : (seenT l).length = l.length := by simp [seenT,mkRows]
theorem seenT_snoc (l : List (List UInt8)) (k : List UInt8) : seenT l ++ [[.str k,.bool true]] = seenT (l ++ [k]) := by simp [seenT,mkRows]
theorem nodup_snoc {α : Type} {l : List α} {x : α} (h : l.Nodup) (hx : x ∉ l) : (l ++ [x]).Nodup := List.nodup_append.2 ⟨h,by simp,fun a ha b hb => by rw [List.mem_singleton.1 hb]; exact fun e => hx (e ▸ ha)⟩
theorem nodup_at {α : Type} {l : List α} {i : Nat} {x : α} (hx : l[i]? = some x) (hm : x ∈ l.take i) : ¬ l.Nodup := fun h => by
  obtain ⟨hi,hy⟩ := List.getElem?_eq_some_iff.1 hx
  have e : l = l.take i ++ x :: l.drop (i + 1) := by rw [← hy,← List.drop_eq_getElem_cons hi,List.take_append_drop]
  rw [e] at h
  exact (List.nodup_append.1 h).2.2 x hm x (List.mem_cons_self ..) rfl
set_option maxRecDepth 100000
def isTop (l : List UInt8) : Bool := decide (l.head? = some 47)
def hasPre (l p : List UInt8) : Bool := decide (l.take p.length = p)
theorem slPrefix_fn {l p : List UInt8} (hl : l.length ≤ mx) (hp : p.length ≤ mx) : Fnc Tryz.prog 191 [.str l,.str p] (.bool (hasPre l p)) := by
  refine fn_of c191 (by simp [F191]) fun c => ?_
  unfold F191
  by_cases h : p.length ≤ l.length
  · simp [h]
    exact fin_plain ⟨by simp [hasPre],rfl⟩
  · simp [h]
    exact fin_plain ⟨by rw [hasPre,decide_eq_false fun e => ?_]; have := congrArg List.length e; simp at this; omega,rfl⟩
theorem prefix_fn {l p : List UInt8} (hl : l.length ≤ mx) (hp : p.length ≤ mx) : Fnc Tryz.prog 155 [.str l,.str p] (.bool (hasPre l p)) := by
  refine fn_of c155 (by simp [F155]) fun c => ?_
  unfold F155
  simp
  refine call_fn0 (slPrefix_fn hl hp) .bool fun _ _ => ?_
  simp
  exact fin_plain ⟨rfl,rfl⟩
theorem hasPre_top (l : List UInt8) : hasPre l [47] = isTop l := by
  cases l <;> simp [hasPre,isTop]
theorem hasPrefix_fn {l : List UInt8} (hl : l.length ≤ mx) : Fnc Tryz.prog 155 [.str l,.str [47]] (.bool (isTop l)) := by
  rw [← hasPre_top]
  exact prefix_fn hl (by simp [mx])
theorem impl_isFile {f : TFunc} (hf : f.ok) : Fnc Tryz.prog 109 [.agg f.enc] (.bool (isTop f.Name)) := by
  refine fn_of c109 (by simp [F109]) fun c => ?_
  unfold F109
  simp
  refine call_fn0 (hasPrefix_fn hf.1) .bool fun _ _ => ?_
  simp
  exact fin_plain ⟨rfl,rfl⟩
theorem spec_top {f : TFunc} (hf : f.ok) : Fnc Tryz.prog 97 [.agg f.enc] (.bool (isTop f.Name)) := by
  refine fn_of c97 (by simp [F97]) fun c => ?_
  unfold F97
  cases hN : f.Name with
  | nil =>
    simp [hN]
    exact fin_plain ⟨rfl,rfl⟩
  | cons b l =>
    simp [hN]
    refine fin_plain ⟨?_,rfl⟩
    have : ((b.toNat : Int) = 47) ↔ b = 47 := ⟨fun h => UInt8.toNat_inj.1 (by simpa using (by omega : b.toNat = 47)),fun h => by rw [h]; rfl⟩
    simp [isTop,this]
def thisS : List UInt8 := [116,104,105,115]
structure FuncOk (f : TFunc) : Prop where
  n1 : 1 ≤ f.Name.length
  n2 : f.Name.length ≤ 100
  sl : f.Slots.list.length ≤ 600
  cl : f.Code.list.length ≤ 8000
  pu : f.Params.list.length + f.Uses.list.length ≤ f.Slots.list.length
  nd : f.Slots.list.Nodup
  gd : ∀ s,s ∈ f.Slots.list → good s = true ∧ s ≠ thisS
  nm : ∀ (i : Nat) (x : TParam),(f.Params.list ++ f.Uses.list)[i]? = some x → f.Slots.list[i]? = some x.Name
  gen : ∀ x,x ∈ f.Code.list → x.Op = 54 → f.Gen = true
  file : isTop f.Name = true → f.Slots.list.length = 0 ∧ f.Gen = false
  hts : okHeights f.Slots.list.length f.Code.list
noncomputable def isFunc (f : TFunc) : Bool := @decide (FuncOk f) (Classical.propDecidable _)
theorem isFunc_true {f : TFunc} (h : FuncOk f) : isFunc f = true := @decide_eq_true _ (Classical.propDecidable _) h
theorem isFunc_false {f : TFunc} (h : ¬ FuncOk f) : isFunc f = false := @decide_eq_false _ (Classical.propDecidable _) h
theorem impl_isFunc {f : TFunc} (hf : f.ok) (hz : f.sz ≤ 16777216) : Fnc Tryz.prog 106 [.agg f.enc] (.bool (isFunc f)) := by
  refine fn_of c106 (by simp [F106]) fun c => ?_
  unfold F106
  have hpl : f.Params.list.length ≤ 16777216 := by have := hz; unfold TFunc.sz szParamS at this; omega
  have hul : f.Uses.list.length ≤ 16777216 := by have := hz; unfold TFunc.sz szParamS at this; omega
  refine seq_cut (fun e H c' => e 1 = .ptr 0 c 6 0 0 ∧ H = [⟨false,c,6,[f.enc]⟩]) ?_ ?_
  rotate_left
  · intro K hK
    simp
    exact hK _ _ _ ⟨rfl,rfl⟩
  intro e H c1 ⟨e1,hH⟩
  subst hH
  refine seq_cut (fun e H c' => e 1 = .ptr 0 c 6 0 0 ∧ H = [⟨false,c,6,[f.enc]⟩] ∧ 1 ≤ f.Name.length ∧ f.Name.length ≤ 100 ∧ f.Slots.list.length ≤ 600 ∧ f.Code.list.length ≤ 8000 ∧ f.Params.list.length + f.Uses.list.length ≤ f.Slots.list.length) ?_ ?_
  rotate_left
  · intro K hK
    have hw : IntKind.i64.wrap ((f.Params.list.length : Int) + f.Uses.list.length) = (f.Params.list.length : Int) + f.Uses.list.length := by rw [wrap64 (by omega) (by omega)]
    simp [e1]
    refine call_fn0 (inRange_fn _ _ _) .bool fun _ _ => ?_
    cases h1 : inR f.Name.length 1 100
    · simp
      rw [isFunc_false fun h => by have := h.n1; have := h.n2; simp [inR] at h1; omega]
      exact fin_plain ⟨rfl,rfl⟩
    have h1' := inR_iff.1 h1
    by_cases h2 : (600 : Int) < f.Slots.list.length
    · simp [e1,h2]
      rw [isFunc_false fun h => by have := h.sl; omega]
      exact fin_plain ⟨rfl,rfl⟩
    by_cases h3 : (8000 : Int) < f.Code.list.length
    · simp [e1,h2,h3]
      rw [isFunc_false fun h => by have := h.cl; omega]
      exact fin_plain ⟨rfl,rfl⟩
    by_cases h4 : (f.Slots.list.length : Int) < (f.Params.list.length : Int) + f.Uses.list.length
    · simp [e1,h2,h3,hw,h4]
      rw [isFunc_false fun h => by have := h.pu; omega]
      exact fin_plain ⟨rfl,rfl⟩
    simp [e1,h2,h3,hw,h4]
    exact hK _ _ _ ⟨by simp [upd,e1],rfl,by omega,by omega,by omega,by omega,by omega⟩
  clear e1 e
  intro e H c2 ⟨e1,hH,n1,n2,hsl,hcl,hpu⟩
  subst hH
  refine seq_cut (fun e H c' => ∃ t,e 1 = .ptr 0 c 6 0 0 ∧ e 3 = .mref 1 t ∧ H = [⟨false,c,6,[f.enc]⟩,⟨true,t,0,[]⟩]) ?_ ?_
  rotate_left
  · intro K hK
    simp
    exact hK _ _ _ ⟨_,by simp [upd,e1],rfl,rfl⟩
  clear e1 e
  intro e H c3 ⟨tM,e1,e3,hH⟩
  subst hH
  refine seq_cut (fun e H c' => e 1 = .ptr 0 c 6 0 0 ∧ f.Slots.list.Nodup ∧ (∀ s,s ∈ f.Slots.list → good s = true ∧ s ≠ thisS) ∧ ∃ m,H = [⟨false,c,6,[f.enc]⟩,m]) ?_ ?_
  rotate_left
  · intro K hK
    simp [e1]
    refine loop_drop f.Slots.list.length (fun i e H c' => e 1 = .ptr 0 c 6 0 0 ∧ e 3 = .mref 1 tM ∧ e 44 = f.Slots.av 1 encS ∧ e 45 = .int .i64 f.Slots.list.length ∧ e 46 = .int .i64 i ∧ (f.Slots.list.take i).Nodup ∧ (∀ s,s ∈ f.Slots.list.take i → good s = true ∧ s ≠ thisS) ∧
      H = [⟨false,c,6,[f.enc]⟩,⟨true,tM,0,seenT (f.Slots.list.take i)⟩]) ⟨by simp [upd,e1],by simp [upd,e3],by simp [upd],by simp [upd],by simp [upd],by simp,by simp,by simp [seenT_nil]⟩ ?_
    clear e1 e3 e
    intro i e H c' hi ⟨e1,e3,e44,e45,e46,hnd,hgd,hH⟩ N hN
    subst hH
    by_cases h : i < f.Slots.list.length
    · have hx : f.Slots.list[i]? = some f.Slots.list[i] := List.getElem?_eq_getElem h
      have htk : f.Slots.list.take (i + 1) = f.Slots.list.take i ++ [f.Slots.list[i]] := List.take_succ_eq_append_getElem h
      have hxm : f.Slots.list[i] ∈ f.Slots.list := List.getElem_mem h
      generalize f.Slots.list[i] = s at hx htk hxm
      have hsl := hf.2.2.2.1.2 s hxm
      simp [e1,e3,e44,e45,e46,h,getW_of hx]
      by_cases hm : s ∈ f.Slots.list.take i
      · obtain ⟨j,hj⟩ := seenT_yes hm
        refine lookup_yes rfl rfl hj ?_
        simp
        rw [isFunc_false fun hh => nodup_at hx hm hh.nd]
        exact fin_plain ⟨rfl,rfl⟩
      refine lookup_no rfl rfl (seenT_no hm) ?_
      simp
      refine call_fn0 (goodName_fn hsl) .bool fun _ _ => ?_
      cases hg : isName s && !isReserved s
      · simp
        rw [isFunc_false fun hh => by have := (hh.gd s hxm).1; unfold good at this; rw [hg] at this; cases this]
        exact fin_plain ⟨rfl,rfl⟩
      by_cases ht : s = thisS
      · have ht' : s = [116,104,105,115] := ht
        simp [ht']
        rw [isFunc_false fun hh => (hh.gd s hxm).2 ht]
        exact fin_plain ⟨rfl,rfl⟩
      have ht' : ¬ s = [116,104,105,115] := ht
      simp [ht',e3]
      refine mupd_no rfl rfl (seenT_no hm) (by rw [seenT_len,List.length_take]; unfold mx; omega) ?_
      simp [e46]
      rw [seenT_snoc,← htk]
      exact hN _ _ _ _ h (List.Sublist.refl _) ⟨by simp [upd,e1],by simp [upd,e3],by simp [upd,e44],by simp [upd,e45],by simp [upd]; exact step64 (n := f.Slots.list.length) (by unfold mx; omega) h,by rw [htk]; exact nodup_snoc hnd hm,fun s' hs' => by
        rw [htk] at hs'
        rcases List.mem_append.1 hs' with h1 | h1
        · exact hgd s' h1
        · rw [List.mem_singleton.1 h1]; exact ⟨hg,ht⟩,rfl⟩
    · have hie : i = f.Slots.list.length := by omega
      subst hie
      simp [e1,e3,e44,e45,e46]
      rw [List.take_length] at hnd hgd
      exact hK _ _ _ ⟨by simp [upd,e1],hnd,hgd,_,rfl⟩
  clear e1 e3 e
  intro e H c4 ⟨e1,hnd,hgd,mo,hH⟩
  subst hH
  refine seq_cut (fun e H c' => e 1 = .ptr 0 c 6 0 0 ∧ (∀ (i : Nat) (x : TParam),(f.Params.list ++ f.Uses.list)[i]? = some x → f.Slots.list[i]? = some x.Name) ∧ ∃ G,H = ⟨false,c,6,[f.enc]⟩ :: G) ?_ ?_
  rotate_left
  · intro K hK
    refine seq_cut (fun e H c' => e 1 = .ptr 0 c 6 0 0 ∧ e 71 = .int .i64 (f.Params.list ++ f.Uses.list).length ∧ e 72 = .int .i64 0 ∧ ((f.Params.list ++ f.Uses.list = [] ∧ ∃ G,H = ⟨false,c,6,[f.enc]⟩ :: G) ∨
      ∃ t,e 70 = .ref 2 t 2 (f.Params.list ++ f.Uses.list).length ∧ H = [⟨false,c,6,[f.enc]⟩,mo,⟨false,t,2,(f.Params.list ++ f.Uses.list).map TParam.enc⟩])) ?_ ?_
    rotate_left
    · intro K2 hK2
      simp [e1]
      refine call_new (clone_con c149 (s := f.Params) (enc := TParam.enc) (by omega) (by unfold mx; omega) _) (Views.refl _ _) fun r O c' hc hq _ _ => ?_
      obtain ⟨x,rfl,rfl,hx⟩ := hq
      have hul2 : f.Uses.list.length * 24 ≤ 140737488355328 := by omega
      have hul3 : f.Uses.list.length ≤ mx := by unfold mx; omega
      cases x with
      | nil =>
        have hp0 : f.Params.list = [] := hx.symm
        refine ⟨.nsl,.refl _,.nsl,fun o ho => (by cases ho),?_⟩
        simp [SL.wood]
        refine ⟨fun hu => ?_,fun hu => ⟨hul2,hul3,?_⟩⟩
        · exact hK2 _ _ _ ⟨by simp [upd,e1],by simp [upd,hp0,hu],by simp [upd],.inl ⟨by simp [hp0,hu],_,rfl⟩⟩
        · exact hK2 _ _ _ ⟨by simp [upd,e1],by simp [upd,hp0],by simp [upd],.inr ⟨_,by simp only [hp0,List.nil_append]; rfl,by simp only [hp0,List.nil_append]⟩⟩
      | mk t l =>
        have hp0 : l = f.Params.list := hx
        subst hp0
        refine ⟨.ref 2 t 2 f.Params.list.length,.name,.ref,fun o ho => ?_,?_⟩
        · have := free_wood (w := 2) (encO := TParam.enc) (inn := noInn) (fun x a h => fun T => by
            simp only [TParam.enc,List.mem_cons,List.not_mem_nil,or_false] at h
            rcases h with rfl | rfl <;> constructor) (fun x o h => by cases h) (SL.mk t f.Params.list) o ho
          exact this _
        · have hwood : (SL.mk t f.Params.list).wood 2 TParam.enc noInn = [⟨false,t,2,f.Params.list.map TParam.enc⟩] := by simp [SL.wood,A.wood,noInn]
          rw [hwood]
          simp
          refine ⟨by omega,by unfold mx; omega,hK2 _ _ _ ⟨by simp [upd,e1],by simp [upd],by simp [upd],.inr ⟨c',by simp [upd],by simp⟩⟩⟩
    clear e1 e
    intro e H c5 ⟨e1,e71,e72,hcase⟩
    rcases hcase with ⟨h0,G,hH⟩ | ⟨t,e70,hH⟩
    · subst hH
      rw [h0] at e71
      refine blk_cut (loop_nat 0 (fun i e' H' c' => e' = e ∧ H' = ⟨false,c,6,[f.enc]⟩ :: G) ⟨rfl,rfl⟩ ?_)
      intro i e' H' c' hi ⟨he,hH'⟩ N hN
      subst he; subst hH'
      simp [e71,e72]
      exact hK _ _ _ ⟨by simp [upd,e1],fun i x hx => by rw [h0] at hx; simp at hx,G,rfl⟩
    · subst hH
      have hle : (f.Params.list ++ f.Uses.list).length ≤ f.Slots.list.length := by rw [List.length_append]; exact hpu
      generalize hall : f.Params.list ++ f.Uses.list = all at e71 e70 hK hle ⊢
      refine blk_cut (loop_drop all.length (fun i e H c' => e 1 = .ptr 0 c 6 0 0 ∧ e 70 = .ref 2 t 2 all.length ∧ e 71 = .int .i64 all.length ∧ e 72 = .int .i64 i ∧ (∀ (k : Nat) (x : TParam),k < i → all[k]? = some x → f.Slots.list[k]? = some x.Name) ∧
        H = [⟨false,c,6,[f.enc]⟩,mo,⟨false,t,2,all.map TParam.enc⟩]) ⟨e1,e70,e71,e72,fun k x hk => absurd hk (Nat.not_lt_zero _),rfl⟩ ?_)
      clear e1 e70 e71 e72 e
      intro i e H c' hi ⟨e1,e70,e71,e72,hp,hH⟩ N hN
      subst hH
      by_cases h : i < all.length
      · obtain ⟨x,hx⟩ : ∃ x,all[i]? = some x := ⟨_,List.getElem?_eq_getElem h⟩
        obtain ⟨s,hs⟩ : ∃ s,f.Slots.list[i]? = some s := ⟨_,List.getElem?_eq_getElem (by omega)⟩
        simp [e1,e70,e71,e72,h,getW_of hx,getW_of hs]
        refine ⟨fun hne => ?_,fun heq => ?_⟩
        · rw [isFunc_false fun hh => hne (by have := hh.nm i x (by rw [hall]; exact hx); rw [hs] at this; exact Option.some.inj this)]
          exact fin_plain ⟨rfl,rfl⟩
        · exact hN _ _ _ _ h (List.sublist_append_left [_,_,_] [_]) ⟨by simp [upd,e1],by simp [upd,e70],by simp [upd,e71],by simp [upd]; exact step64 (n := all.length) (by unfold mx; omega) h,fun k y hk hy => by
            rcases Nat.lt_or_eq_of_le (Nat.le_of_lt_succ hk) with h1 | h1
            · exact hp k y h1 hy
            · subst h1; rw [hx] at hy; cases hy; rw [hs,heq],rfl⟩
      · have hie : i = all.length := by omega
        subst hie
        simp [e71,e72]
        exact hK _ _ _ ⟨by simp [upd,e1],fun k x hx => hp k x (List.getElem?_eq_some_iff.1 hx).1 hx,_,rfl⟩
  clear e1 e
  intro e H c5 ⟨e1,hnm,G,hH⟩
  subst hH
  refine seq_cut (fun e H c' => e 1 = .ptr 0 c 6 0 0 ∧ (∀ x,x ∈ f.Code.list → x.Op = 54 → f.Gen = true) ∧ ∃ G,H = ⟨false,c,6,[f.enc]⟩ :: G) ?_ ?_
  rotate_left
  · intro K hK
    simp [e1]
    refine loop_drop f.Code.list.length (fun i e H c' => e 1 = .ptr 0 c 6 0 0 ∧ e 87 = f.Code.av 5 TIns.enc ∧ e 88 = .int .i64 f.Code.list.length ∧ e 89 = .int .i64 i ∧ (∀ (k : Nat) (x : TIns),k < i → f.Code.list[k]? = some x → x.Op = 54 → f.Gen = true) ∧ H = ⟨false,c,6,[f.enc]⟩ :: G)
      ⟨by simp [upd,e1],by simp [upd],by simp [upd],by simp [upd],fun k x hk => absurd hk (Nat.not_lt_zero _),rfl⟩ ?_
    clear e1 e
    intro i e H c' hi ⟨e1,e87,e88,e89,hp,hH⟩ N hN
    subst hH
    by_cases h : i < f.Code.list.length
    · obtain ⟨x,hx⟩ : ∃ x,f.Code.list[i]? = some x := ⟨_,List.getElem?_eq_getElem h⟩
      have hxm := List.mem_of_getElem? hx
      have next : (x.Op = 54 → f.Gen = true) → ∀ (k : Nat) (y : TIns),k < i + 1 → f.Code.list[k]? = some y → y.Op = 54 → f.Gen = true := fun hh k y hk hy ho => by
        rcases Nat.lt_or_eq_of_le (Nat.le_of_lt_succ hk) with h1 | h1
        · exact hp k y h1 hy ho
        · subst h1; rw [hx] at hy; cases hy; exact hh ho
      have hsub : ∀ o : AObj,(⟨false,c,6,[f.enc]⟩ :: G).Sublist (⟨false,c,6,[f.enc]⟩ :: (G ++ [o])) := fun o => (List.sublist_append_left G [o]).cons_cons _
      by_cases ho : x.Op = 54
      · cases hg : f.Gen
        · simp [e1,e87,e88,e89,h,getW_of hx,ho,hg]
          rw [isFunc_false fun k => by have := k.gen x hxm ho; rw [hg] at this; cases this]
          exact fin_plain ⟨rfl,rfl⟩
        · simp [e1,e87,e88,e89,h,getW_of hx,ho,hg]
          exact hN _ _ _ _ h (hsub _) ⟨by simp [upd,e1],by simp [upd,e87],by simp [upd,e88],by simp [upd]; exact step64 (n := f.Code.list.length) (by unfold mx; omega) h,next fun _ => hg,rfl⟩
      · simp [e1,e87,e88,e89,h,getW_of hx,ho]
        exact hN _ _ _ _ h (hsub _) ⟨by simp [upd,e1],by simp [upd,e87],by simp [upd,e88],by simp [upd]; exact step64 (n := f.Code.list.length) (by unfold mx; omega) h,next fun h2 => absurd h2 ho,rfl⟩
    · have hie : i = f.Code.list.length := by omega
      subst hie
      simp [e88,e89]
      exact hK _ _ _ ⟨by simp [upd,e1],fun x hx => by
        obtain ⟨k,hk,hy⟩ := List.getElem_of_mem hx
        exact hp k x hk (by rw [List.getElem?_eq_getElem hk,hy]),_,rfl⟩
  clear e1 e G
  intro e H c6 ⟨e1,hgen,G,hH⟩
  subst hH
  have top : ∀ (b : Bool),(isTop f.Name = true → f.Slots.list.length = 0 ∧ f.Gen = false) → heights f.Slots.list.length f.Code.list = isFunc f := fun b hfile => by
    by_cases hh : okHeights f.Slots.list.length f.Code.list
    · rw [heights_true hh,isFunc_true ⟨n1,n2,hsl,hcl,hpu,hnd,hgd,hnm,hgen,hfile,hh⟩]
    · rw [heights_false hh,isFunc_false fun k => hh k.hts]
  refine seq_cut (fun e H c' => e 1 = .ptr 0 c 6 0 0 ∧ heights f.Slots.list.length f.Code.list = isFunc f ∧ ∃ G,H = ⟨false,c,6,[f.enc]⟩ :: G) ?_ ?_
  rotate_left
  · intro K hK
    simp [e1]
    refine call_fn0 (impl_isFile hf) .bool fun _ _ => ?_
    cases ht : isTop f.Name
    · simp
      exact hK _ _ _ ⟨by simp [upd,e1],top true (fun h => by rw [ht] at h; cases h),_,rfl⟩
    by_cases h1 : f.Slots.list = []
    rotate_left
    · have h1' : 0 < f.Slots.list.length := List.length_pos_iff.2 h1
      simp [e1,h1']
      rw [isFunc_false fun k => h1 (List.length_eq_zero_iff.1 (k.file ht).1)]
      exact fin_plain ⟨rfl,rfl⟩
    cases hg : f.Gen
    · simp [e1,h1,hg]
      exact hK _ _ _ ⟨by simp [upd,e1],top true (fun _ => ⟨by rw [h1]; rfl,hg⟩),_,rfl⟩
    · simp [e1,h1,hg]
      rw [isFunc_false fun k => by have := (k.file ht).2; rw [hg] at this; cases this]
      exact fin_plain ⟨rfl,rfl⟩
  clear e1 e G
  intro e H c7 ⟨e1,heq,G,hH⟩
  subst hH
  simp [e1]
  refine call_fn0 (impl_heights hf hcl) (.tup fun j x hx => ?_) fun _ _ => ?_
  · match j with
    | 0 => simp at hx; subst hx; exact .junk
    | 1 => simp at hx; subst hx; exact .bool
    | j + 2 => simp at hx
  simp
  rw [heq]
  exact fin_plain ⟨rfl,rfl⟩
set_option maxRecDepth 100000
def slotAt (s : List UInt8) : List (List UInt8) → Nat → Int
  | [],_ => -1
  | x :: l,i => if x = s then i else slotAt s l (i + 1)
theorem slotAt_go {s : List UInt8} {l : List (List UInt8)} {i : Nat} {x : List UInt8} (hx : l[i]? = some x) : slotAt s (l.drop i) i = if x = s then (i : Int) else slotAt s (l.drop (i + 1)) (i + 1) := by
  obtain ⟨hi,rfl⟩ := List.getElem?_eq_some_iff.1 hx
  rw [List.drop_eq_getElem_cons hi]; rfl
theorem slotOf_fn {f : TFunc} (hf : f.ok) {s : List UInt8} : Fnc Tryz.prog 168 [.agg f.enc,.str s] (.int .i64 (slotAt s f.Slots.list 0)) := by
  refine fn_of c168 (by simp [F168]) fun c => ?_
  unfold F168
  have hn := hf.2.2.2.1.1
  simp
  refine loop_drop f.Slots.list.length (fun i e H c' => e 1 = .str s ∧ e 2 = .ptr 0 c 6 0 0 ∧ e 5 = .int .i64 i ∧ slotAt s f.Slots.list 0 = slotAt s (f.Slots.list.drop i) i ∧ H = [⟨false,c,6,[f.enc]⟩]) ⟨rfl,rfl,rfl,by simp,rfl⟩ ?_
  intro i e H c' hi ⟨e1,e2,e5,hd,hH⟩ N hN
  subst hH
  by_cases h : i < f.Slots.list.length
  · obtain ⟨x,hx⟩ : ∃ x,f.Slots.list[i]? = some x := ⟨_,List.getElem?_eq_getElem h⟩
    rw [slotAt_go hx] at hd
    by_cases hxs : x = s
    · simp [e1,e2,e5,h,getW_of hx,hxs]
      rw [hd,if_pos hxs]
      exact fin_plain ⟨rfl,rfl⟩
    · simp [e1,e2,e5,h,getW_of hx,hxs]
      rw [if_neg hxs] at hd
      exact hN _ _ _ _ h (List.Sublist.refl _) ⟨by simp [upd,e1],by simp [upd,e2],by simp [upd]; exact step64 hn h,hd,rfl⟩
  · have hie : i = f.Slots.list.length := by omega
    subst hie
    simp [e1,e2,e5]
    rw [hd,List.drop_length]
    exact fin_plain ⟨rfl,rfl⟩
theorem slotAt_first {s : List UInt8} : ∀ (l : List (List UInt8)) (i k : Nat),l[k]? = some s → s ∉ l.take k → slotAt s l i = ((i + k : Nat) : Int)
  | [],_,_,h,_ => by simp at h
  | x :: l,i,0,h,_ => by simp at h; simp [slotAt,h]
  | x :: l,i,k + 1,h,hn => by
    simp at h hn
    rw [slotAt,if_neg (fun e => hn.1 e.symm),slotAt_first l (i + 1) k h hn.2]
    congr 1; omega
theorem slotAt_less {s : List UInt8} : ∀ (l : List (List UInt8)) (i k : Nat),s ∈ l.take k → slotAt s l i < ((i + k : Nat) : Int)
  | [],_,_,h => by simp at h
  | x :: l,i,0,h => by simp at h
  | x :: l,i,k + 1,h => by
    rw [slotAt]
    split
    · omega
    · rename_i hne
      simp only [List.take_succ_cons,List.mem_cons] at h
      have := slotAt_less l (i + 1) k (h.resolve_left fun e => hne e.symm)
      omega
structure NamesOk (f : TFunc) : Prop where
  sl : f.Slots.list.length ≤ 600
  pu : f.Params.list.length + f.Uses.list.length ≤ f.Slots.list.length
  nd : f.Slots.list.Nodup
  gd : ∀ s,s ∈ f.Slots.list → good s = true ∧ s ≠ thisS
  nm : ∀ (i : Nat) (x : TParam),(f.Params.list ++ f.Uses.list)[i]? = some x → f.Slots.list[i]? = some x.Name
noncomputable def namesOk (f : TFunc) : Bool := @decide (NamesOk f) (Classical.propDecidable _)
theorem namesOk_true {f : TFunc} (h : NamesOk f) : namesOk f = true := @decide_eq_true _ (Classical.propDecidable _) h
theorem namesOk_false {f : TFunc} (h : ¬ NamesOk f) : namesOk f = false := @decide_eq_false _ (Classical.propDecidable _) h
theorem names_fn {f : TFunc} (hf : f.ok) (hz : f.sz ≤ 16777216) : Fnc Tryz.prog 135 [.agg f.enc] (.bool (namesOk f)) := by
  refine fn_of c135 (by simp [F135]) fun c => ?_
  unfold F135
  have hpl : f.Params.list.length ≤ 16777216 := by have := hz; unfold TFunc.sz szParamS at this; omega
  have hul : f.Uses.list.length ≤ 16777216 := by have := hz; unfold TFunc.sz szParamS at this; omega
  refine seq_cut (fun e H c' => e 1 = .ptr 0 c 6 0 0 ∧ H = [⟨false,c,6,[f.enc]⟩]) ?_ ?_
  rotate_left
  · intro K hK
    simp
    exact hK _ _ _ ⟨rfl,rfl⟩
  intro e H c1 ⟨e1,hH⟩
  subst hH
  refine seq_cut (fun e H c' => e 1 = .ptr 0 c 6 0 0 ∧ e 3 = .int .i64 f.Params.list.length ∧ H = [⟨false,c,6,[f.enc]⟩]) ?_ ?_
  rotate_left
  · intro K hK
    simp [e1]
    exact hK _ _ _ ⟨by simp [upd,e1],by simp [upd],rfl⟩
  clear e1 e
  intro e H c1 ⟨e1,e3,hH⟩
  subst hH
  refine seq_cut (fun e H c' => e 1 = .ptr 0 c 6 0 0 ∧ e 3 = .int .i64 f.Params.list.length ∧ H = [⟨false,c,6,[f.enc]⟩] ∧ f.Slots.list.length ≤ 600 ∧ f.Params.list.length + f.Uses.list.length ≤ f.Slots.list.length) ?_ ?_
  rotate_left
  · intro K hK
    have hw : IntKind.i64.wrap ((f.Params.list.length : Int) + f.Uses.list.length) = (f.Params.list.length : Int) + f.Uses.list.length := by rw [wrap64 (by omega) (by omega)]
    by_cases h2 : (600 : Int) < f.Slots.list.length
    · simp [e1,e3,h2]
      rw [namesOk_false fun h => by have := h.sl; omega]
      exact fin_plain ⟨rfl,rfl⟩
    by_cases h4 : (f.Slots.list.length : Int) < (f.Params.list.length : Int) + f.Uses.list.length
    · simp [e1,e3,h2,hw,h4]
      rw [namesOk_false fun h => by have := h.pu; omega]
      exact fin_plain ⟨rfl,rfl⟩
    simp [e1,e3,h2,hw,h4]
    exact hK _ _ _ ⟨by simp [upd,e1],by simp [upd,e3],rfl,by omega,by omega⟩
  clear e1 e3 e
  intro e H c2 ⟨e1,e3,hH,hsl,hpu⟩
  subst hH
  refine seq_cut (fun e H c' => NamesOk f) ?_ ?_
  · intro e H c' ok
    simp
    rw [namesOk_true ok]
    exact fin_plain ⟨rfl,rfl⟩
  intro K hK
  simp
  refine loop_drop f.Slots.list.length (fun i e H c' => e 1 = .ptr 0 c 6 0 0 ∧ e 3 = .int .i64 f.Params.list.length ∧ e 4 = .int .i64 i ∧ (f.Slots.list.take i).Nodup ∧ (∀ s,s ∈ f.Slots.list.take i → good s = true ∧ s ≠ thisS) ∧
    (∀ (k : Nat) (x : TParam),k < i → (f.Params.list ++ f.Uses.list)[k]? = some x → f.Slots.list[k]? = some x.Name) ∧ H = [⟨false,c,6,[f.enc]⟩]) ⟨by simp [upd,e1],by simp [upd,e3],by simp [upd],by simp,by simp,fun k x hk => absurd hk (Nat.not_lt_zero _),rfl⟩ ?_
  clear e1 e3 e
  intro i e H c' hi ⟨e1,e3,e4,hnd,hgd,hnm,hH⟩ N hN
  subst hH
  by_cases h : i < f.Slots.list.length
  · have hx : f.Slots.list[i]? = some f.Slots.list[i] := List.getElem?_eq_getElem h
    have htk : f.Slots.list.take (i + 1) = f.Slots.list.take i ++ [f.Slots.list[i]] := List.take_succ_eq_append_getElem h
    have hxm : f.Slots.list[i] ∈ f.Slots.list := List.getElem_mem h
    generalize f.Slots.list[i] = s at hx htk hxm
    have hsl2 := hf.2.2.2.1.2 s hxm
    simp [e1,e3,e4,h,getW_of hx]
    refine call_fn0 (l15Name_fn hsl2) .bool fun _ _ => ?_
    cases hg : isName s && !isReserved s
    · simp
      rw [namesOk_false fun hh => by have := (hh.gd s hxm).1; unfold good at this; rw [hg] at this; cases this]
      exact fin_plain ⟨rfl,rfl⟩
    by_cases ht : s = thisS
    · have ht' : s = [116,104,105,115] := ht
      simp [ht']
      rw [namesOk_false fun hh => (hh.gd s hxm).2 ht]
      exact fin_plain ⟨rfl,rfl⟩
    have ht' : ¬ s = [116,104,105,115] := ht
    simp [ht',e1,e4]
    refine call_fn0 (slotOf_fn hf) .int fun _ _ => ?_
    by_cases hm : s ∈ f.Slots.list.take i
    · have hlt := slotAt_less (s := s) f.Slots.list 0 i hm
      have hne : ¬ slotAt s f.Slots.list 0 = (i : Int) := by omega
      simp [hne,e4]
      rw [namesOk_false fun hh => nodup_at hx hm hh.nd]
      exact fin_plain ⟨rfl,rfl⟩
    have heq : slotAt s f.Slots.list 0 = (i : Int) := by rw [slotAt_first f.Slots.list 0 i hx hm]; simp
    have next : (∀ x,(f.Params.list ++ f.Uses.list)[i]? = some x → x.Name = s) → ∀ (k : Nat) (x : TParam),k < i + 1 → (f.Params.list ++ f.Uses.list)[k]? = some x → f.Slots.list[k]? = some x.Name := fun hq k x hk hkx => by
      rcases Nat.lt_or_eq_of_le (Nat.le_of_lt_succ hk) with h1 | h1
      · exact hnm k x h1 hkx
      · subst h1; rw [hq x hkx]; exact hx
    have bad : ∀ x,(f.Params.list ++ f.Uses.list)[i]? = some x → ¬ x.Name = s → ¬ NamesOk f := fun x hq hne hh => by
      have := hh.nm i x hq
      rw [hx] at this; exact hne (Option.some.inj this).symm
    have fin : (∀ x,(f.Params.list ++ f.Uses.list)[i]? = some x → x.Name = s) → ∀ e' c'',e' 1 = .ptr 0 c 6 0 0 → e' 3 = .int .i64 f.Params.list.length → e' 4 = .int .i64 (IntKind.i64.wrap ((i : Int) + 1)) → N e' [⟨false,c,6,[f.enc]⟩] c'' := fun hq e' c'' k1 k3 k4 =>
      hN _ _ _ _ h (List.Sublist.refl _) ⟨k1,k3,by rw [k4,step64 (n := f.Slots.list.length) (by unfold mx; omega) h]; rfl,by rw [htk]; exact nodup_snoc hnd hm,fun s' hs' => by
        rw [htk] at hs'
        rcases List.mem_append.1 hs' with h1 | h1
        · exact hgd s' h1
        · rw [List.mem_singleton.1 h1]; exact ⟨hg,ht⟩,next hq,rfl⟩
    by_cases hp : i < f.Params.list.length
    · obtain ⟨x,hpx⟩ : ∃ x,f.Params.list[i]? = some x := ⟨_,List.getElem?_eq_getElem hp⟩
      have hall : (f.Params.list ++ f.Uses.list)[i]? = some x := by rw [List.getElem?_append_left hp]; exact hpx
      have hp2 : ¬ f.Params.list.length ≤ i := by omega
      by_cases hne : x.Name = s
      · simp [heq,e1,e3,e4,hp,hp2,getW_of hpx,hne]
        exact fin (fun y hy => by rw [hall] at hy; cases hy; exact hne) _ _ (by simp [upd,e1]) (by simp [upd,e3]) (by simp [upd])
      · simp [heq,e1,e3,e4,hp,hp2,getW_of hpx,hne]
        rw [namesOk_false (bad x hall hne)]
        exact fin_plain ⟨rfl,rfl⟩
    · have hp2 : f.Params.list.length ≤ i := by omega
      have hw : IntKind.i64.wrap ((i : Int) - f.Params.list.length) = ((i - f.Params.list.length : Nat) : Int) := by rw [wrap64 (by omega) (by omega)]; omega
      by_cases hu : i - f.Params.list.length < f.Uses.list.length
      · obtain ⟨x,hux⟩ : ∃ x,f.Uses.list[i - f.Params.list.length]? = some x := ⟨_,List.getElem?_eq_getElem hu⟩
        have hall : (f.Params.list ++ f.Uses.list)[i]? = some x := by rw [List.getElem?_append_right hp2]; exact hux
        generalize i - f.Params.list.length = j at hw hu hux
        by_cases hne : x.Name = s
        · simp [heq,e1,e3,e4,hp,hp2,hw,hu,getW_of hux,hne]
          exact fin (fun y hy => by rw [hall] at hy; cases hy; exact hne) _ _ (by simp [upd,e1]) (by simp [upd,e3]) (by simp [upd])
        · simp [heq,e1,e3,e4,hp,hp2,hw,hu,getW_of hux,hne]
          rw [namesOk_false (bad x hall hne)]
          exact fin_plain ⟨rfl,rfl⟩
      · have hnone : (f.Params.list ++ f.Uses.list)[i]? = none := by rw [List.getElem?_append_right hp2]; exact List.getElem?_eq_none (by omega)
        generalize i - f.Params.list.length = j at hw hu
        simp [heq,e1,e3,e4,hp,hp2,hw,hu]
        exact fin (fun y hy => by rw [hnone] at hy; cases hy) _ _ (by simp [upd,e1]) (by simp [upd,e3]) (by simp [upd])
  · have hie : i = f.Slots.list.length := by omega
    subst hie
    simp [e1,e4]
    rw [List.take_length] at hnd hgd
    exact hK _ _ _ ⟨hsl,hpu,hnd,hgd,fun k x hx => hnm k x (by have := (List.getElem?_eq_some_iff.1 hx).1; rw [List.length_append] at this; omega) hx⟩
theorem spec_isFunc {f : TFunc} (hf : f.ok) (hz : f.sz ≤ 16777216) : Fnc Tryz.prog 93 [.agg f.enc] (.bool (isFunc f)) := by
  refine fn_of c93 (by simp [F93]) fun c => ?_
  unfold F93
  refine seq_cut (fun e H c' => e 1 = .ptr 0 c 6 0 0 ∧ H = [⟨false,c,6,[f.enc]⟩]) ?_ ?_
  rotate_left
  · intro K hK
    simp
    exact hK _ _ _ ⟨rfl,rfl⟩
  intro e H c1 ⟨e1,hH⟩
  subst hH
  refine seq_cut (fun e H c' => e 1 = .ptr 0 c 6 0 0 ∧ H = [⟨false,c,6,[f.enc]⟩] ∧ 1 ≤ f.Name.length ∧ f.Name.length ≤ 100 ∧ f.Code.list.length ≤ 8000 ∧ NamesOk f ∧ (isTop f.Name = true → f.Slots.list.length = 0 ∧ f.Gen = false)) ?_ ?_
  rotate_left
  · intro K hK
    simp [e1]
    refine call_fn0 (l1In_fn _ _ _) .bool fun _ _ => ?_
    cases h1 : inR f.Name.length 1 100
    · simp
      rw [isFunc_false fun h => by have := h.n1; have := h.n2; simp [inR] at h1; omega]
      exact fin_plain ⟨rfl,rfl⟩
    have h1' := inR_iff.1 h1
    by_cases h3 : (8000 : Int) < f.Code.list.length
    · simp [e1,h3]
      rw [isFunc_false fun h => by have := h.cl; omega]
      exact fin_plain ⟨rfl,rfl⟩
    simp [e1,h3]
    refine call_fn0 (names_fn hf hz) .bool fun _ _ => ?_
    by_cases hnm : NamesOk f
    rotate_left
    · rw [namesOk_false hnm]
      simp
      rw [isFunc_false fun k => hnm ⟨k.sl,k.pu,k.nd,k.gd,k.nm⟩]
      exact fin_plain ⟨rfl,rfl⟩
    rw [namesOk_true hnm]
    simp [e1]
    refine call_fn0 (spec_top hf) .bool fun _ _ => ?_
    cases ht : isTop f.Name
    · simp
      exact hK _ _ _ ⟨by simp [upd,e1],rfl,by omega,by omega,by omega,hnm,fun h => by rw [ht] at h; cases h⟩
    by_cases h1 : f.Slots.list = []
    rotate_left
    · have h1' : 0 < f.Slots.list.length := List.length_pos_iff.2 h1
      simp [e1,h1']
      rw [isFunc_false fun k => h1 (List.length_eq_zero_iff.1 (k.file ht).1)]
      exact fin_plain ⟨rfl,rfl⟩
    cases hg : f.Gen
    · simp [e1,h1,hg]
      exact hK _ _ _ ⟨by simp [upd,e1],rfl,by omega,by omega,by omega,hnm,fun _ => ⟨by rw [h1]; rfl,hg⟩⟩
    · simp [e1,h1,hg]
      rw [isFunc_false fun k => by have := (k.file ht).2; rw [hg] at this; cases this]
      exact fin_plain ⟨rfl,rfl⟩
  clear e1 e
  intro e H c2 ⟨e1,hH,n1,n2,hcl,hnm,hfile⟩
  subst hH
  refine seq_cut (fun e H c' => e 1 = .ptr 0 c 6 0 0 ∧ (∀ x,x ∈ f.Code.list → x.Op = 54 → f.Gen = true) ∧ H = [⟨false,c,6,[f.enc]⟩]) ?_ ?_
  rotate_left
  · intro K hK
    simp
    refine loop_drop f.Code.list.length (fun i e H c' => e 1 = .ptr 0 c 6 0 0 ∧ e 3 = .int .i64 i ∧ (∀ (k : Nat) (x : TIns),k < i → f.Code.list[k]? = some x → x.Op = 54 → f.Gen = true) ∧ H = [⟨false,c,6,[f.enc]⟩])
      ⟨by simp [upd,e1],by simp [upd],fun k x hk => absurd hk (Nat.not_lt_zero _),rfl⟩ ?_
    clear e1 e
    intro i e H c' hi ⟨e1,e3,hp,hH⟩ N hN
    subst hH
    by_cases h : i < f.Code.list.length
    · obtain ⟨x,hx⟩ : ∃ x,f.Code.list[i]? = some x := ⟨_,List.getElem?_eq_getElem h⟩
      have hxm := List.mem_of_getElem? hx
      have next : (x.Op = 54 → f.Gen = true) → ∀ (k : Nat) (y : TIns),k < i + 1 → f.Code.list[k]? = some y → y.Op = 54 → f.Gen = true := fun hh k y hk hy ho => by
        rcases Nat.lt_or_eq_of_le (Nat.le_of_lt_succ hk) with h1 | h1
        · exact hp k y h1 hy ho
        · subst h1; rw [hx] at hy; cases hy; exact hh ho
      by_cases ho : x.Op = 54
      · cases hg : f.Gen
        · simp [e1,e3,h,getW_of hx,ho,hg]
          rw [isFunc_false fun k => by have := k.gen x hxm ho; rw [hg] at this; cases this]
          exact fin_plain ⟨rfl,rfl⟩
        · simp [e1,e3,h,getW_of hx,ho,hg]
          exact hN _ _ _ _ h (List.Sublist.refl _) ⟨by simp [upd,e1],by simp [upd]; exact step64 (n := f.Code.list.length) (by unfold mx; omega) h,next fun _ => hg,rfl⟩
      · simp [e1,e3,h,getW_of hx,ho]
        exact hN _ _ _ _ h (List.Sublist.refl _) ⟨by simp [upd,e1],by simp [upd]; exact step64 (n := f.Code.list.length) (by unfold mx; omega) h,next fun h2 => absurd h2 ho,rfl⟩
    · have hie : i = f.Code.list.length := by omega
      subst hie
      simp [e1,e3]
      exact hK _ _ _ ⟨by simp [upd,e1],fun x hx => by
        obtain ⟨k,hk,hy⟩ := List.getElem_of_mem hx
        exact hp k x hk (by rw [List.getElem?_eq_getElem hk,hy]),rfl⟩
  clear e1 e
  intro e H c6 ⟨e1,hgen,hH⟩
  subst hH
  have heq : heights f.Slots.list.length f.Code.list = isFunc f := by
    by_cases hh : okHeights f.Slots.list.length f.Code.list
    · rw [heights_true hh,isFunc_true ⟨n1,n2,hnm.sl,hcl,hnm.pu,hnm.nd,hnm.gd,hnm.nm,hgen,hfile,hh⟩]
    · rw [heights_false hh,isFunc_false fun k => hh k.hts]
  simp [e1]
  refine call_fn0 (spec_heights hf hcl) (.tup fun j x hx => ?_) fun _ _ => ?_
  · match j with
    | 0 => simp at hx; subst hx; exact .junk
    | 1 => simp at hx; subst hx; exact .bool
    | j + 2 => simp at hx
  simp
  rw [heq]
  exact fin_plain ⟨rfl,rfl⟩
def dgt (b : UInt8) : Bool := decide (48 ≤ b.toNat) && decide (b.toNat ≤ 57)
def dvl : List UInt8 → Nat → Nat
  | [],n => n
  | b :: l,n => dvl l (10 * n + (b.toNat - 48))
theorem dvl_app (l m : List UInt8) : ∀ n,dvl (l ++ m) n = dvl m (dvl l n) := by
  induction l with
  | nil => intro n; rfl
  | cons b l ih => intro n; exact ih _
theorem dvl_ge : ∀ (l : List UInt8) (n : Nat),n ≤ dvl l n
  | [],n => Nat.le_refl _
  | b :: l,n => Nat.le_trans (by omega) (dvl_ge l (10 * n + (b.toNat - 48)))
theorem dvl_le : ∀ (l : List UInt8) (n : Nat),l.all dgt = true → dvl l n + 1 ≤ (n + 1) * 10 ^ l.length
  | [],n,_ => by simp [dvl]
  | b :: l,n,h => by
    simp only [List.all_cons,Bool.and_eq_true] at h
    have hb := h.1
    simp only [dgt,Bool.and_eq_true,decide_eq_true_eq] at hb
    have ih := dvl_le l (10 * n + (b.toNat - 48)) h.2
    rw [dvl,List.length_cons,Nat.pow_succ]
    refine Nat.le_trans ih ?_
    have h2 : 10 * n + (b.toNat - 48) + 1 ≤ (n + 1) * 10 := by omega
    calc (10 * n + (b.toNat - 48) + 1) * 10 ^ l.length ≤ ((n + 1) * 10) * 10 ^ l.length := Nat.mul_le_mul_right _ h2
      _ = (n + 1) * (10 ^ l.length * 10) := by rw [Nat.mul_assoc,Nat.mul_comm 10]
theorem dd_spec : ∀ (k n : Nat),n < k → (Lib.decDigits n).all dgt = true ∧ dvl (Lib.decDigits n) 0 = n ∧ Lib.decDigits n ≠ []
  | 0,_,h => by omega
  | k + 1,n,h => by
    rw [Lib.decDigits]
    split
    · rename_i h1
      have e : (UInt8.ofNat (48 + n)).toNat = 48 + n := by rw [UInt8.toNat_ofNat']; omega
      refine ⟨?_,?_,by simp⟩
      · simp [dgt,e]; omega
      · simp [dvl]; omega
    · rename_i h1
      obtain ⟨i1,i2,i3⟩ := dd_spec k (n / 10) (by omega)
      have e : (UInt8.ofNat (48 + n % 10)).toNat = 48 + n % 10 := by rw [UInt8.toNat_ofNat']; omega
      refine ⟨?_,?_,by simp⟩
      · rw [List.all_append,i1]; simp [dgt,e]; omega
      · rw [dvl_app,i2]; simp [dvl,e]; omega
theorem dd_all (n : Nat) : (Lib.decDigits n).all dgt = true := (dd_spec (n + 1) n (by omega)).1
theorem dd_val (n : Nat) : dvl (Lib.decDigits n) 0 = n := (dd_spec (n + 1) n (by omega)).2.1
theorem dd_ne (n : Nat) : Lib.decDigits n ≠ [] := (dd_spec (n + 1) n (by omega)).2.2
theorem pu_ok : ∀ (l : List UInt8) (acc : Nat),l.all dgt = true → dvl l acc < 1000000000000000000 → Lib.parseUint10 acc l = .ok (dvl l acc)
  | [],acc,_,_ => rfl
  | b :: l,acc,h,hb => by
    simp only [List.all_cons,Bool.and_eq_true] at h
    have hd := h.1
    simp only [dgt,Bool.and_eq_true,decide_eq_true_eq] at hd
    rw [dvl] at hb
    have h1 := dvl_ge l (10 * acc + (b.toNat - 48))
    rw [Lib.parseUint10,if_pos hd,if_neg (by omega),if_neg (by omega),dvl,Nat.mul_comm acc 10]
    exact pu_ok l _ h.2 hb
theorem pm_digits {m : Nat} (h : m < 1000000000000000000) : Lib.parseMag (Lib.decDigits m) = .ok m := by
  unfold Lib.parseMag
  rw [if_neg (dd_ne m),pu_ok _ _ (dd_all m) (by rw [dd_val]; exact h),dd_val]
theorem atoi_itoa {n : Int} (h0 : -1000000000000000000 < n) (h1 : n < 1000000000000000000) : Lib.atoiAll (Lib.itoa n) = .ok n := by
  by_cases hn : n < 0
  · obtain ⟨m,rfl⟩ : ∃ m : Nat,n = -(m : Int) := ⟨n.natAbs,by omega⟩
    rw [Lib.itoa_neg m (by omega),Lib.atoiAll_minus,pm_digits (by omega),Lib.signed,if_neg (by omega)]
  · obtain ⟨m,rfl⟩ : ∃ m : Nat,n = (m : Int) := ⟨n.toNat,by omega⟩
    rw [Lib.itoa_nonneg]
    have hd := dd_all m
    have hne := dd_ne m
    have hp := pm_digits (m := m) (by omega)
    cases hc : Lib.decDigits m with
    | nil => exact absurd hc hne
    | cons b l =>
      rw [hc] at hd hp
      simp only [List.all_cons,Bool.and_eq_true] at hd
      have hb := hd.1
      simp only [dgt,Bool.and_eq_true,decide_eq_true_eq] at hb
      rw [Lib.atoiAll_plain b l (by omega) (by omega),hp,Lib.signless,if_neg (by omega)]
theorem dd_len {m k : Nat} (h : m < 10 ^ k) (hk : 1 ≤ k) : (Lib.decDigits m).length ≤ k := by
  have key : ∀ (k m : Nat),1 ≤ k → m < 10 ^ k → (Lib.decDigits m).length ≤ k := by
    intro k
    induction k with
    | zero => intro m h; omega
    | succ k ih =>
      intro m _ hm
      rw [Lib.decDigits]
      split
      · simp
      · rename_i h1
        rw [List.length_append]
        have : (Lib.decDigits (m / 10)).length ≤ k := by
          rcases Nat.eq_zero_or_pos k with rfl | hk
          · omega
          · exact ih _ hk (by rw [Nat.pow_succ] at hm; omega)
        simp only [List.length_cons,List.length_nil]; omega
  exact key k m hk h
def pn13 (l : List UInt8) : Bool := decide (1 ≤ l.length) && decide (l.length ≤ 13) && l.all dgt && decide (dvl l 0 ≤ 1000000000000) && decide (Lib.decDigits (dvl l 0) = l)
def sgNeg (l : List UInt8) : Bool := l.headD 0 == 45
def sgBody (l : List UInt8) : List UInt8 := if sgNeg l then l.drop 1 else l
def sgS (l : List UInt8) : Option Int :=
  if pn13 (sgBody l) && decide (dvl (sgBody l) 0 ≤ 1000000000) && !(sgNeg l && decide (dvl (sgBody l) 0 = 0)) then
    some (if sgNeg l then -(dvl (sgBody l) 0 : Int) else dvl (sgBody l) 0)
  else none
theorem sgS_iff (l : List UInt8) (n : Int) : sgS l = some n ↔ Lib.itoa n = l ∧ -1000000000 ≤ n ∧ n ≤ 1000000000 := by
  constructor
  · intro h
    unfold sgS at h
    split at h
    · rename_i hc
      simp only [pn13,Bool.and_eq_true,decide_eq_true_eq,Bool.not_eq_true',Bool.and_eq_false_iff,decide_eq_false_iff_not] at hc
      obtain ⟨⟨⟨⟨⟨⟨h1,h2⟩,h3⟩,h4⟩,h5⟩,h6⟩,h7⟩ := hc
      cases hs : sgNeg l with
      | false =>
        have hb : sgBody l = l := by unfold sgBody; rw [hs]; rfl
        rw [hs,hb] at h
        rw [hb] at h5 h6
        simp only [Bool.false_eq_true,if_false,Option.some.injEq] at h
        subst h
        exact ⟨by rw [Lib.itoa_nonneg,h5],by omega,by omega⟩
      | true =>
        have hb : sgBody l = l.drop 1 := by unfold sgBody; rw [hs]; rfl
        have hl : l = 45 :: l.drop 1 := by
          unfold sgNeg at hs
          cases l with
          | nil => simp at hs
          | cons b r => simp at hs; subst hs; rfl
        rw [hs,hb] at h
        rw [hb] at h5 h6 h7
        simp only [if_true,Option.some.injEq] at h
        subst h
        have h8 : dvl (l.drop 1) 0 ≠ 0 := by
          rcases h7 with h7 | h7
          · rw [hs] at h7; cases h7
          · exact h7
        refine ⟨?_,by omega,by omega⟩
        rw [Lib.itoa_neg _ (by omega),h5]
        exact hl.symm
    · cases h
  · rintro ⟨rfl,h0,h1⟩
    by_cases hn : n < 0
    · obtain ⟨m,rfl⟩ : ∃ m : Nat,n = -(m : Int) := ⟨n.natAbs,by omega⟩
      rw [Lib.itoa_neg m (by omega)]
      have hl := dd_len (m := m) (k := 13) (by omega) (by omega)
      have hl1 := List.length_pos_iff.2 (dd_ne m)
      have e1 : sgNeg (45 :: Lib.decDigits m) = true := rfl
      have e2 : sgBody (45 :: Lib.decDigits m) = Lib.decDigits m := rfl
      unfold sgS
      rw [e1,e2,dd_val,if_pos]
      · rfl
      · simp only [pn13,Bool.and_eq_true,decide_eq_true_eq,dd_val,dd_all]
        simp
        omega
    · obtain ⟨m,rfl⟩ : ∃ m : Nat,n = (m : Int) := ⟨n.toNat,by omega⟩
      rw [Lib.itoa_nonneg]
      have hl := dd_len (m := m) (k := 13) (by omega) (by omega)
      have hl1 := List.length_pos_iff.2 (dd_ne m)
      have e1 : sgNeg (Lib.decDigits m) = false := by
        have hd := dd_all m
        unfold sgNeg
        cases hc : Lib.decDigits m with
        | nil => rfl
        | cons b r =>
          rw [hc] at hd
          simp only [List.all_cons,Bool.and_eq_true,dgt,decide_eq_true_eq] at hd
          simp only [List.headD_cons,beq_eq_false_iff_ne,ne_eq]
          rintro rfl
          have : (45 : UInt8).toNat = 45 := rfl
          omega
      have e2 : sgBody (Lib.decDigits m) = Lib.decDigits m := by unfold sgBody; rw [e1]; rfl
      unfold sgS
      rw [e1,e2,dd_val,if_pos]
      · rfl
      · simp only [pn13,Bool.and_eq_true,decide_eq_true_eq,dd_val,dd_all]
        simp
        omega
set_option maxRecDepth 100000
def isKey (k : TKey) : Bool := if k.Text then decide (k.Num = 0) && decide (k.Str.length ≤ 400) && !(sgS k.Str).isSome else decide (k.Str = []) && inR k.Num (-1000000000) 1000000000
def TValue.wt : TValue → Nat
  | .mk k _ _ _ I => if k = 4 then 1 + (match I with | .nil => 0 | .mk _ xs => (xs.attach.map fun e => e.1.2.wt).sum) else 1
termination_by v => SizeOf.sizeOf v
decreasing_by exact items_lt (I := .mk _ xs) e.2
def wtE (e : TKey × TValue) : Nat := e.2.wt
theorem TValue.wt_mk (k n : Int) (s : List UInt8) (x : Int) (I : SL (TKey × TValue)) : (TValue.mk k n s x I).wt = if k = 4 then 1 + szL wtE I.list else 1 := by
  rw [TValue.wt.eq_def]
  cases I with
  | nil => rfl
  | mk t xs =>
    show (if k = 4 then 1 + (xs.attach.map fun e => e.1.2.wt).sum else 1) = if k = 4 then 1 + szL wtE xs else 1
    simp only [szL]
    rw [show (xs.attach.map fun e => e.1.2.wt) = xs.map wtE from by
      rw [show (fun e : { x // x ∈ xs } => e.1.2.wt) = wtE ∘ Subtype.val from rfl,← List.map_map,List.attach_map_subtype_val]]
theorem TValue.wt_eq (v : TValue) : v.wt = if v.Kind = 4 then 1 + szL wtE v.Items.list else 1 := by cases v; exact TValue.wt_mk _ _ _ _ _
theorem szL_le_add {α : Type} {f g : α → Nat} : ∀ {l : List α},(∀ x,x ∈ l → f x ≤ g x + 1) → szL f l ≤ szL g l + l.length
  | [],_ => by simp [szL]
  | x :: l,h => by
    have ih := szL_le_add (l := l) fun y hy => h y (List.mem_cons_of_mem _ hy)
    have := h x (List.mem_cons_self ..)
    simp only [szL,List.map_cons,List.sum_cons,List.length_cons] at *
    omega
theorem TValue.wt_le : ∀ v : TValue,v.wt ≤ v.sz + 1 := TValue.ind fun k n s x I ih => by
  rw [TValue.wt_mk,TValue.sz_mk]
  split
  · have := szL_le_add (f := wtE) (g := szE) (l := I.list) fun e he => by
      have := ih e he
      show e.2.wt ≤ e.1.Str.length + e.2.sz + 1
      omega
    omega
  · omega
def TValue.gd : TValue → Prop
  | .mk k n s x I => (0 ≤ k ∧ k ≤ 8 ∧ k ≠ 5) ∧ (k ≠ 3 → s = []) ∧ (k ≠ 4 → x = 0 ∧ I.list = []) ∧ (k = 0 → n = 0) ∧ (k = 1 → n = 0 ∨ n = 1) ∧ (k = 2 → inR n (-1000000000) 1000000000 = true) ∧ (k = 3 → n = 0 ∧ s.length ≤ 400) ∧
    (k = 6 ∨ k = 7 ∨ k = 8 → inR n 0 255 = true) ∧
    (k = 4 → n = 0 ∧ inR x 0 1000000001 = true ∧ (I.list.map Prod.fst).Nodup ∧ (∀ e,e ∈ I.list → isKey e.1 = true ∧ (e.1.Text = false → e.1.Num < x)) ∧ ∀ e : { e // e ∈ I.list },e.1.2.gd)
termination_by v => SizeOf.sizeOf v
decreasing_by exact items_lt e.2
structure Gd (v : TValue) : Prop where
  k0 : 0 ≤ v.Kind
  k8 : v.Kind ≤ 8
  k5 : v.Kind ≠ 5
  s3 : v.Kind ≠ 3 → v.Str = []
  x4 : v.Kind ≠ 4 → v.Next = 0 ∧ v.Items.list = []
  n0 : v.Kind = 0 → v.Num = 0
  n1 : v.Kind = 1 → v.Num = 0 ∨ v.Num = 1
  n2 : v.Kind = 2 → inR v.Num (-1000000000) 1000000000 = true
  n3 : v.Kind = 3 → v.Num = 0 ∧ v.Str.length ≤ 400
  n6 : v.Kind = 6 ∨ v.Kind = 7 ∨ v.Kind = 8 → inR v.Num 0 255 = true
  a0 : v.Kind = 4 → v.Num = 0
  a1 : v.Kind = 4 → inR v.Next 0 1000000001 = true
  a2 : v.Kind = 4 → (v.Items.list.map Prod.fst).Nodup
  a3 : v.Kind = 4 → ∀ e,e ∈ v.Items.list → isKey e.1 = true ∧ (e.1.Text = false → e.1.Num < v.Next)
  a4 : v.Kind = 4 → ∀ e,e ∈ v.Items.list → e.2.gd
theorem gd_iff (v : TValue) : v.gd ↔ Gd v := by
  cases v with
  | mk k n s x I =>
    rw [TValue.gd.eq_def]
    constructor
    · rintro ⟨⟨h1,h2,h3⟩,h4,h5,h6,h7,h8,h9,h10,h11⟩
      exact ⟨h1,h2,h3,h4,h5,h6,h7,h8,h9,h10,fun h => (h11 h).1,fun h => (h11 h).2.1,fun h => (h11 h).2.2.1,fun h => (h11 h).2.2.2.1,fun h e he => (h11 h).2.2.2.2 ⟨e,he⟩⟩
    · intro h
      exact ⟨⟨h.k0,h.k8,h.k5⟩,h.s3,h.x4,h.n0,h.n1,h.n2,h.n3,h.n6,fun k => ⟨h.a0 k,h.a1 k,h.a2 k,h.a3 k,fun e => h.a4 k e.1 e.2⟩⟩
noncomputable def pdec (p : Prop) : Bool := @decide p (Classical.propDecidable _)
theorem pdec_true {p : Prop} (h : p) : pdec p = true := @decide_eq_true _ (Classical.propDecidable _) h
theorem pdec_false {p : Prop} (h : ¬ p) : pdec p = false := @decide_eq_false _ (Classical.propDecidable _) h
theorem pdec_iff {p : Prop} : pdec p = true ↔ p := ⟨fun h => Classical.byContradiction fun hn => (by rw [pdec_false hn] at h; cases h),pdec_true⟩
theorem pdec_of {p : Prop} {b : Bool} (h : b = true ↔ p) : pdec p = b := by
  cases b with
  | true => exact pdec_true (h.1 rfl)
  | false => exact pdec_false fun hp => by have := h.2 hp; cases this
noncomputable def isVal (v : TValue) : Bool := decide (v.wt ≤ 200) && pdec v.gd
def TValue.plain : TValue → Prop
  | .mk k _ _ _ I => (k = 4 → ∀ e : { e // e ∈ I.list },e.1.2.plain) ∧ (k ≠ 4 → 0 ≤ k ∧ k ≤ 3)
termination_by v => SizeOf.sizeOf v
decreasing_by exact items_lt e.2
theorem plain_iff (v : TValue) : v.plain ↔ (v.Kind = 4 → ∀ e,e ∈ v.Items.list → e.2.plain) ∧ (v.Kind ≠ 4 → 0 ≤ v.Kind ∧ v.Kind ≤ 3) := by
  cases v with
  | mk k n s x I =>
    rw [TValue.plain.eq_def]
    exact ⟨fun h => ⟨fun k e he => h.1 k ⟨e,he⟩,h.2⟩,fun h => ⟨fun k e => h.1 k e.1 e.2,h.2⟩⟩
end A
end Go.Proofs.YtgalkppgeoknaaaGreatDoor

namespace Go.Proofs
open Go.Shelf
def Tryz.laysM171_ren : Go.Shelf.Ren := ⟨fun | 171 => 218 | 243 => 227 | 246 => 234 | 283 => 238 | 284 => 239 | 285 => 240 | 286 => 241 | 129 => 248 | 317 => 247 | 318 => 249 | 319 => 250 | 320 => 251 | 337 => 255 | 338 => 256 | n => n,fun | 3 => 3 | 9 => 9 | 2 => 2 | 4 => 4 | 171 => 268 | 0 => 0 | 53 => 269 | 37 => 52 | 5 => 5 | 173 => 272 | 212 => 280 | 51 => 281 | 20 => 20 | 213 => 282 | 46 => 192 | 232 => 296 | 233 => 297 | n => n,fun | 17 => 0 | 18 => 3 | 19 => 4 | n => n⟩
theorem Tryz.laysM171 : Go.Proofs.LaysM.n171 Tryz.prog Tryz.laysM171_ren := {
  mixed := by kernel_rfl
  f129 := Tryz.func248.trans (congrArg some (by kernel_rfl))
  f171 := Tryz.func218.trans (congrArg some (by kernel_rfl))
  f243 := Tryz.func227.trans (congrArg some (by kernel_rfl))
  f246 := Tryz.func234.trans (congrArg some (by kernel_rfl))
  f283 := Tryz.func238.trans (congrArg some (by kernel_rfl))
  f284 := Tryz.func239.trans (congrArg some (by kernel_rfl))
  f285 := Tryz.func240.trans (congrArg some (by kernel_rfl))
  f286 := Tryz.func241.trans (congrArg some (by kernel_rfl))
  f317 := Tryz.func247.trans (congrArg some (by kernel_rfl))
  f318 := Tryz.func249.trans (congrArg some (by kernel_rfl))
  f319 := Tryz.func250.trans (congrArg some (by kernel_rfl))
  f320 := Tryz.func251.trans (congrArg some (by kernel_rfl))
  f337 := Tryz.func255.trans (congrArg some (by kernel_rfl))
  f338 := Tryz.func256.trans (congrArg some (by kernel_rfl))
  t0 := Tryz.underlying0
  a0 := Tryz.isAgg0
  z0 := Tryz.sizeOf0
  v0 := Tryz.zeroValue0
  t2 := Tryz.underlying2
  a2 := Tryz.isAgg2
  z2 := Tryz.sizeOf2
  v2 := Tryz.zeroValue2
  t3 := Tryz.underlying3
  a3 := Tryz.isAgg3
  z3 := Tryz.sizeOf3
  v3 := Tryz.zeroValue3
  t4 := Tryz.underlying4
  a4 := Tryz.isAgg4
  z4 := Tryz.sizeOf4
  v4 := Tryz.zeroValue4
  t5 := Tryz.underlying5
  a5 := Tryz.isAgg5
  z5 := Tryz.sizeOf5
  v5 := Tryz.zeroValue5
  t9 := Tryz.underlying9
  a9 := Tryz.isAgg9
  z9 := Tryz.sizeOf9
  v9 := Tryz.zeroValue9
  t20 := Tryz.underlying20
  a20 := Tryz.isAgg20
  z20 := Tryz.sizeOf20
  v20 := Tryz.zeroValue20
  t37 := Tryz.underlying52
  a37 := Tryz.isAgg52
  z37 := Tryz.sizeOf52
  v37 := Tryz.zeroValue52
  t46 := Tryz.underlying192
  a46 := Tryz.isAgg192
  z46 := Tryz.sizeOf192
  v46 := Tryz.zeroValue192
  t51 := Tryz.underlying281
  a51 := Tryz.isAgg281
  z51 := Tryz.sizeOf281
  v51 := Tryz.zeroValue281
  t53 := Tryz.underlying269
  a53 := Tryz.isAgg269
  z53 := Tryz.sizeOf269
  v53 := Tryz.zeroValue269
  t171 := Tryz.underlying268
  a171 := Tryz.isAgg268
  z171 := Tryz.sizeOf268
  v171 := Tryz.zeroValue268
  t173 := Tryz.underlying272
  a173 := Tryz.isAgg272
  z173 := Tryz.sizeOf272
  v173 := Tryz.zeroValue272
  t212 := Tryz.underlying280
  a212 := Tryz.isAgg280
  z212 := Tryz.sizeOf280
  v212 := Tryz.zeroValue280
  t213 := Tryz.underlying282
  a213 := Tryz.isAgg282
  z213 := Tryz.sizeOf282
  t232 := Tryz.underlying296
  a232 := Tryz.isAgg296
  z232 := Tryz.sizeOf296
  v232 := Tryz.zeroValue296
  t233 := Tryz.underlying297
  a233 := Tryz.isAgg297
  z233 := Tryz.sizeOf297
  v233 := Tryz.zeroValue297
  g17 := by kernel_rfl
  g18 := by kernel_rfl
  g19 := by kernel_rfl
  i0 := by kernel_rfl
  i2 := by kernel_rfl
  i3 := by kernel_rfl
  i4 := by kernel_rfl
  i5 := by kernel_rfl
  i9 := by kernel_rfl
  i20 := by kernel_rfl
  i37 := by kernel_rfl
  i46 := by kernel_rfl
  i51 := by kernel_rfl
  i53 := by kernel_rfl
  i171 := by kernel_rfl
  i173 := by kernel_rfl
  i212 := by kernel_rfl
  i232 := by kernel_rfl
  i233 := by kernel_rfl
  m17 := by kernel_rfl
  m18 := by kernel_rfl
  m19 := by kernel_rfl }
open Go.RowKit Go.Sort Go.Lib in
theorem Tryz.strconv_Itoa (n : Int) (h0 : -9223372036854775808 ≤ n) (h1 : n ≤ 9223372036854775807) (w : World) (htab : Lib.TabIs Tryz.prog w "internal/strconv.uint64pow10" .u64 Lib.pow10Tab) :
    Calls Tryz.prog 218 #[.int .i64 n] w fun e w' => e = .returned (.string ⟨(Lib.itoa n).toArray⟩) ∧ ∃ k os,w' = grow (w.drewN k) os := Any.strconv_Itoa Tryz.laysM171 n h0 h1 w htab
end Go.Proofs

namespace Go.Proofs.YtgalkppgeoknaaaGreatDoor
namespace A
set_option linter.unusedVariables false
set_option linter.unusedSimpArgs false
open Go.RowKit
theorem con_below {P : Program} {f : Nat} {args : List AV} {H : List AObj} {c : Nat} {res : AV} {Q : AV → List AObj → Nat → Prop}
    (h : ∀ (G : Gh) (w : World) (vs : Array Value),G.c = c → Inv G H w.heap → vs.size = args.length → (∀ (j : Nat) (a : AV),args[j]? = some a → Rep G w.heap (vs.getD j undef) a) →
      Calls P f vs w fun e w' => ∃ v,e = .returned v ∧ Below w.heap.size w w' ∧ Rep G w.heap v res) (hq : Q res H c) : Con P f args H c Q := by
  intro G w vs hc I hs hr
  subst hc
  refine (h G w vs rfl I hs hr).mono fun e w' ⟨v,he,hb,hv⟩ => ?_
  have hx : Ext1 G w.heap G w'.heap :=
    ⟨Nat.le_refl _,fun _ _ => rfl,fun _ _ x => x,fun t ht hF => hb.block _ (I.fz t hF).2,fun b c e fr hbb => ⟨c,fr,by
      rw [hb.block b (by
        rcases Nat.lt_or_ge b w.heap.size with h1 | h1
        · exact h1
        · rw [Array.getElem?_eq_none h1] at hbb; cases hbb),hbb],rfl⟩⟩
  refine ⟨v,res,H,G,he,hq,⟨hx,hb.os,hb.tape,hb.output,hb.size,fun b hbl _ => hb.block b hbl,fun t h1 h2 => absurd h2 (by omega),fun _ _ h => h,fun _ _ h => .inl h⟩,?_,hv.ext hx⟩
  exact ⟨fun t hF => ⟨(I.fz t hF).1,Nat.lt_of_lt_of_le (I.fz t hF).2 hb.size⟩,fun o ho => (I.obj o ho).ext hx (hb.block _ (I.obj o ho).block),I.nfz,I.nodup,I.inj,I.gl.ext hx⟩
set_option maxRecDepth 100000
open Go.RowKit
theorem nDigits_le : ∀ (k u : Nat),u < 10 ^ (k + 1) → Lib.nDigits u ≤ k + 1
  | 0,u,h => by rw [Lib.nDigits_small (by simpa using h)]; omega
  | k + 1,u,h => by
    by_cases h1 : u < 10
    · rw [Lib.nDigits_small h1]; omega
    · rw [Lib.nDigits_big h1]
      have := nDigits_le k (u / 10) (by rw [Nat.pow_succ] at h; omega)
      omega
theorem pow_tab {G : Gh} {H : List AObj} {w : World} (I : Inv G H w.heap) : Lib.TabIs Tryz.prog w "internal/strconv.uint64pow10" .u64 Lib.pow10Tab := by
  obtain ⟨_,_,hm,hg⟩ := I.gl 0 (by decide)
  obtain ⟨t,fr,ho⟩ := gl_pow hg
  unfold Lib.TabIs World.var?
  rw [show Tryz.prog.globalNamed "internal/strconv.uint64pow10" = some 0 by kernel_rfl]
  simp only [Option.bind_some,ho]
theorem specFmt_fn {n : Nat} (h1 : n ≤ 9223372036854775807) : Fnc Tryz.prog 179 [.int .i64 n] (.str (Lib.decDigits n)) := by
  refine fn_of c179 (by simp [F179]) fun c => ?_
  unfold F179
  by_cases hn : n = 0
  · subst hn
    simp
    exact fin_plain ⟨by rw [Lib.decDigits_one (by omega)]; rfl,rfl⟩
  have hn' : ¬ (n : Int) = 0 := by omega
  have hlt : ¬ (n : Int) < 0 := by omega
  simp [hn]
  refine loop_drop 19 (fun i e H c' => ∃ (x : Nat) (s : List UInt8),e 0 = .int .i64 n ∧ e 4 = .int .i64 x ∧ e 3 = .str s ∧ s.length = i ∧ x * 10 ^ i ≤ n ∧ (if x = 0 then s else Lib.decDigits x ++ s) = Lib.decDigits n ∧ H = []) ?_ ?_
  · exact ⟨n,[],rfl,rfl,rfl,rfl,by simp,by simp [hn],rfl⟩
  intro i e H c hi ⟨x,s,e0,e4,e3,hl,hx,hd,hH⟩ N hN
  subst hH
  by_cases h : x = 0
  · subst h
    simp at hd
    subst hd
    simp [e0,e3,e4,hlt]
    exact fin_plain ⟨rfl,rfl⟩
  rw [if_neg h] at hd
  have hi' : i < 19 := by
    rcases Nat.lt_or_ge i 19 with h1 | h1
    · exact h1
    · have : i = 19 := by omega
      subst this
      omega
  have hx' : ¬ (x : Int) = 0 := by omega
  have hxn : x ≤ n := Nat.le_trans (Nat.le_mul_of_pos_right x (Nat.pos_of_ne_zero (by simp))) hx
  have h10 : ((x : Int)).tmod 10 = ((x % 10 : Nat) : Int) := by rw [Int.tmod_eq_emod_of_nonneg (by omega)]; omega
  have hq : ((x : Int)).tdiv 10 = ((x / 10 : Nat) : Int) := by rw [Int.tdiv_eq_ediv_of_nonneg (by omega)]; omega
  have hneg : ¬ ((x % 10 : Nat) : Int) < 0 := by omega
  have h48 : (48 : Int) + ((x % 10 : Nat) : Int) = ((48 + x % 10 : Nat) : Int) := by omega
  have hw : IntKind.u8.wrap (IntKind.i64.wrap (48 + ((x % 10 : Nat) : Int))) = ((UInt8.ofNat (48 + x % 10)).toNat : Int) := by rw [h48]; exact wrap_u8 (by omega)
  simp [e0,e3,e4,h,h10,hneg,-Int.natCast_emod]
  refine toStrW_ref (l := [UInt8.ofNat (48 + x % 10)]) (by rw [hw]; rfl) rfl (by simp [mx]) ?_
  have hm1 : 1 + s.length ≤ mx := by unfold mx; omega
  have hq' : IntKind.i64.wrap ((x / 10 : Nat) : Int) = ((x / 10 : Nat) : Int) := wrap64 (by omega) (by omega)
  simp [e0,e3,e4,hm1,hq,hq',-Int.natCast_ediv]
  refine hN _ _ [] _ hi' (by simp) ⟨x / 10,UInt8.ofNat (48 + x % 10) :: s,by simp [upd,e0],by simp [upd],by simp [upd],by simp [hl],?_,?_,rfl⟩
  · refine Nat.le_trans ?_ hx
    rw [Nat.pow_succ,Nat.mul_comm (10 ^ i) 10,← Nat.mul_assoc]
    exact Nat.mul_le_mul_right _ (Nat.div_mul_le_self x 10)
  · have hdx : Lib.decDigits x = if h : x < 10 then [UInt8.ofNat (48 + x)] else Lib.decDigits (x / 10) ++ [UInt8.ofNat (48 + x % 10)] := by rw [Lib.decDigits]
    rw [← hd,hdx]
    by_cases h9 : x < 10
    · have : x / 10 = 0 := by omega
      rw [dif_pos h9,if_pos this,Nat.mod_eq_of_lt h9]; rfl
    · rw [dif_neg h9,if_neg (by omega)]; simp
end A
end Go.Proofs.YtgalkppgeoknaaaGreatDoor

namespace Go.Proofs
open Go.Shelf
def Tryz.laysC172_ren : Go.Shelf.Ren := ⟨fun | 172 => 229 | 244 => 236 | 245 => 237 | 247 => 242 | 279 => 243 | 280 => 244 | 281 => 245 | 282 => 246 | 287 => 252 | 316 => 253 | 171 => 218 | 205 => 254 | 321 => 257 | 322 => 258 | 243 => 227 | 246 => 234 | 283 => 238 | 284 => 239 | 285 => 240 | 286 => 241 | 129 => 248 | 317 => 247 | 318 => 249 | 319 => 250 | 320 => 251 | 337 => 255 | 338 => 256 | n => n,fun | 9 => 9 | 3 => 3 | 75 => 258 | 76 => 259 | 4 => 4 | 5 => 5 | 167 => 274 | 37 => 52 | 0 => 0 | 85 => 275 | 2 => 2 | 168 => 277 | 53 => 269 | 175 => 284 | 46 => 192 | 210 => 288 | 127 => 292 | 145 => 295 | 143 => 293 | 21 => 21 | 171 => 268 | 173 => 272 | 212 => 280 | 51 => 281 | 20 => 20 | 213 => 282 | 232 => 296 | 233 => 297 | 80 => 175 | n => n,fun | 15 => 1 | 16 => 2 | 17 => 0 | 18 => 3 | 19 => 4 | n => n⟩
theorem Tryz.laysC172 : Go.Proofs.LaysC.n172 Tryz.prog Tryz.laysC172_ren := {
  mixed := by kernel_rfl
  f129 := Tryz.func248.trans (congrArg some (by kernel_rfl))
  f171 := Tryz.func218.trans (congrArg some (by kernel_rfl))
  f172 := Tryz.func229.trans (congrArg some (by kernel_rfl))
  f205 := Tryz.func254.trans (congrArg some (by kernel_rfl))
  f243 := Tryz.func227.trans (congrArg some (by kernel_rfl))
  f244 := Tryz.func236.trans (congrArg some (by kernel_rfl))
  f245 := Tryz.func237.trans (congrArg some (by kernel_rfl))
  f246 := Tryz.func234.trans (congrArg some (by kernel_rfl))
  f247 := Tryz.func242.trans (congrArg some (by kernel_rfl))
  f279 := Tryz.func243.trans (congrArg some (by kernel_rfl))
  f280 := Tryz.func244.trans (congrArg some (by kernel_rfl))
  f281 := Tryz.func245.trans (congrArg some (by kernel_rfl))
  f282 := Tryz.func246.trans (congrArg some (by kernel_rfl))
  f283 := Tryz.func238.trans (congrArg some (by kernel_rfl))
  f284 := Tryz.func239.trans (congrArg some (by kernel_rfl))
  f285 := Tryz.func240.trans (congrArg some (by kernel_rfl))
  f286 := Tryz.func241.trans (congrArg some (by kernel_rfl))
  f287 := Tryz.func252.trans (congrArg some (by kernel_rfl))
  f316 := Tryz.func253.trans (congrArg some (by kernel_rfl))
  f317 := Tryz.func247.trans (congrArg some (by kernel_rfl))
  f318 := Tryz.func249.trans (congrArg some (by kernel_rfl))
  f319 := Tryz.func250.trans (congrArg some (by kernel_rfl))
  f320 := Tryz.func251.trans (congrArg some (by kernel_rfl))
  f321 := Tryz.func257.trans (congrArg some (by kernel_rfl))
  f322 := Tryz.func258.trans (congrArg some (by kernel_rfl))
  f337 := Tryz.func255.trans (congrArg some (by kernel_rfl))
  f338 := Tryz.func256.trans (congrArg some (by kernel_rfl))
  t0 := Tryz.underlying0
  a0 := Tryz.isAgg0
  z0 := Tryz.sizeOf0
  v0 := Tryz.zeroValue0
  t2 := Tryz.underlying2
  a2 := Tryz.isAgg2
  z2 := Tryz.sizeOf2
  v2 := Tryz.zeroValue2
  t3 := Tryz.underlying3
  a3 := Tryz.isAgg3
  z3 := Tryz.sizeOf3
  v3 := Tryz.zeroValue3
  t4 := Tryz.underlying4
  a4 := Tryz.isAgg4
  z4 := Tryz.sizeOf4
  v4 := Tryz.zeroValue4
  t5 := Tryz.underlying5
  a5 := Tryz.isAgg5
  z5 := Tryz.sizeOf5
  v5 := Tryz.zeroValue5
  t9 := Tryz.underlying9
  a9 := Tryz.isAgg9
  z9 := Tryz.sizeOf9
  v9 := Tryz.zeroValue9
  t20 := Tryz.underlying20
  a20 := Tryz.isAgg20
  z20 := Tryz.sizeOf20
  v20 := Tryz.zeroValue20
  t21 := Tryz.underlying21
  a21 := Tryz.isAgg21
  z21 := Tryz.sizeOf21
  v21 := Tryz.zeroValue21
  t37 := Tryz.underlying52
  a37 := Tryz.isAgg52
  z37 := Tryz.sizeOf52
  v37 := Tryz.zeroValue52
  t46 := Tryz.underlying192
  a46 := Tryz.isAgg192
  z46 := Tryz.sizeOf192
  v46 := Tryz.zeroValue192
  t51 := Tryz.underlying281
  a51 := Tryz.isAgg281
  z51 := Tryz.sizeOf281
  v51 := Tryz.zeroValue281
  t53 := Tryz.underlying269
  a53 := Tryz.isAgg269
  z53 := Tryz.sizeOf269
  v53 := Tryz.zeroValue269
  t75 := Tryz.underlying258
  a75 := Tryz.isAgg258
  z75 := Tryz.sizeOf258
  v75 := Tryz.zeroValue258
  t76 := Tryz.underlying259
  a76 := Tryz.isAgg259
  z76 := Tryz.sizeOf259
  v76 := Tryz.zeroValue259
  t85 := Tryz.underlying275
  a85 := Tryz.isAgg275
  z85 := Tryz.sizeOf275
  v85 := Tryz.zeroValue275
  t127 := Tryz.underlying292
  a127 := Tryz.isAgg292
  z127 := Tryz.sizeOf292
  v127 := Tryz.zeroValue292
  t143 := Tryz.underlying293
  a143 := Tryz.isAgg293
  z143 := Tryz.sizeOf293
  v143 := Tryz.zeroValue293
  t145 := Tryz.underlying295
  a145 := Tryz.isAgg295
  z145 := Tryz.sizeOf295
  v145 := Tryz.zeroValue295
  t167 := Tryz.underlying274
  a167 := Tryz.isAgg274
  z167 := Tryz.sizeOf274
  v167 := Tryz.zeroValue274
  t168 := Tryz.underlying277
  a168 := Tryz.isAgg277
  z168 := Tryz.sizeOf277
  v168 := Tryz.zeroValue277
  t171 := Tryz.underlying268
  a171 := Tryz.isAgg268
  z171 := Tryz.sizeOf268
  v171 := Tryz.zeroValue268
  t173 := Tryz.underlying272
  a173 := Tryz.isAgg272
  z173 := Tryz.sizeOf272
  v173 := Tryz.zeroValue272
  t175 := Tryz.underlying284
  a175 := Tryz.isAgg284
  z175 := Tryz.sizeOf284
  v175 := Tryz.zeroValue284
  t210 := Tryz.underlying288
  a210 := Tryz.isAgg288
  z210 := Tryz.sizeOf288
  v210 := Tryz.zeroValue288
  t212 := Tryz.underlying280
  a212 := Tryz.isAgg280
  z212 := Tryz.sizeOf280
  v212 := Tryz.zeroValue280
  t213 := Tryz.underlying282
  a213 := Tryz.isAgg282
  z213 := Tryz.sizeOf282
  t232 := Tryz.underlying296
  a232 := Tryz.isAgg296
  z232 := Tryz.sizeOf296
  v232 := Tryz.zeroValue296
  t233 := Tryz.underlying297
  a233 := Tryz.isAgg297
  z233 := Tryz.sizeOf297
  v233 := Tryz.zeroValue297
  g15 := by kernel_rfl
  g16 := by kernel_rfl
  g17 := by kernel_rfl
  g18 := by kernel_rfl
  g19 := by kernel_rfl
  t80 := Tryz.underlying175
  a80 := Tryz.isAgg175
  z80 := Tryz.sizeOf175
  v80 := Tryz.zeroValue175
  i0 := by kernel_rfl
  i2 := by kernel_rfl
  i3 := by kernel_rfl
  i4 := by kernel_rfl
  i5 := by kernel_rfl
  i9 := by kernel_rfl
  i20 := by kernel_rfl
  i21 := by kernel_rfl
  i37 := by kernel_rfl
  i46 := by kernel_rfl
  i51 := by kernel_rfl
  i53 := by kernel_rfl
  i75 := by kernel_rfl
  i76 := by kernel_rfl
  i80 := by kernel_rfl
  i85 := by kernel_rfl
  i127 := by kernel_rfl
  i143 := by kernel_rfl
  i145 := by kernel_rfl
  i167 := by kernel_rfl
  i168 := by kernel_rfl
  i171 := by kernel_rfl
  i173 := by kernel_rfl
  i175 := by kernel_rfl
  i210 := by kernel_rfl
  i212 := by kernel_rfl
  i232 := by kernel_rfl
  i233 := by kernel_rfl
  m15 := by kernel_rfl
  m16 := by kernel_rfl
  m17 := by kernel_rfl
  m18 := by kernel_rfl
  m19 := by kernel_rfl
  c0 := by kernel_rfl
  c2 := by kernel_rfl
  c3 := by kernel_rfl
  c4 := by kernel_rfl
  c5 := by kernel_rfl
  c9 := by kernel_rfl
  c20 := by kernel_rfl
  c21 := by kernel_rfl
  c37 := by kernel_rfl
  c46 := by kernel_rfl
  c51 := by kernel_rfl
  c53 := by kernel_rfl
  c75 := by kernel_rfl
  c76 := by kernel_rfl
  c80 := by kernel_rfl
  c85 := by kernel_rfl
  c127 := by kernel_rfl
  c143 := by kernel_rfl
  c145 := by kernel_rfl
  c167 := by kernel_rfl
  c168 := by kernel_rfl
  c171 := by kernel_rfl
  c173 := by kernel_rfl
  c175 := by kernel_rfl
  c210 := by kernel_rfl
  c212 := by kernel_rfl
  c213 := by kernel_rfl
  c232 := by kernel_rfl
  c233 := by kernel_rfl }
open Go.RowKit in
theorem Tryz.strconv_Atoi_ok (s : ByteArray) (hmax : s.size ≤ 9223372036854775806) (v : Int) (h : Lib.atoiAll s.data.toList = .ok v) (w : World) :
    Calls Tryz.prog 229 #[.string s] w fun e w' => e = .returned (.tuple #[.int .i64 v,.nilIface]) ∧ (w' = w ∨ ∃ t,w' = Lib.bytesWorld w 5 t) := Any.strconv_Atoi_ok Tryz.laysC172 s hmax v h w
open Go.RowKit in
theorem Tryz.strconv_Atoi_syntax (s : ByteArray) (hlim : s.size ≤ 281474976710656) (h1 : ∀ v,Lib.atoiAll s.data.toList ≠ .ok v) (h2 : Lib.atoiAll s.data.toList ≠ .range) (ev : Value) (w : World) (hv : w.cell? ⟨1,0,none⟩ = some ev) (hev : ev = .nilIface ∨ ∃ te pe,ev = .iface te pe) :
    Calls Tryz.prog 229 #[.string s] w fun e w' => ∃ N,e = .returned (.tuple #[.int .i64 (0),.iface 277 (.pointer (some ⟨N,0,none⟩))]) ∧ w.heap.size ≤ N ∧ w'.heap[N]? = some (.cells #[.string ⟨#[65,116,111,105]⟩,.string s,ev] 288 (0,0)) ∧ Below w.heap.size w w' :=
  Any.strconv_Atoi_syntax Tryz.laysC172 s hlim (by
    cases hh : Lib.atoiAll s.data.toList with
    | ok v => exact absurd hh (h1 v)
    | range => exact absurd hh h2
    | _ => rfl) ev w hv hev
open Go.RowKit in
theorem Tryz.strconv_Atoi_range (s : ByteArray) (hlim : s.size ≤ 281474976710656) (h : Lib.atoiAll s.data.toList = .range) (ev : Value) (w : World) (hv : w.cell? ⟨2,0,none⟩ = some ev) (hev : ev = .nilIface ∨ ∃ te pe,ev = .iface te pe) :
    Calls Tryz.prog 229 #[.string s] w fun e w' => ∃ N,e = .returned (.tuple #[.int .i64 (Lib.atoiSat s.data.toList),.iface 277 (.pointer (some ⟨N,0,none⟩))]) ∧ w.heap.size ≤ N ∧ w'.heap[N]? = some (.cells #[.string ⟨#[65,116,111,105]⟩,.string s,ev] 288 (0,0)) ∧ Below w.heap.size w w' := Any.strconv_Atoi_range Tryz.laysC172 s hlim h ev w hv hev
end Go.Proofs
