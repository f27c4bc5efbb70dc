import Derived.Test.YtgalkppgeoknaaaGreatDoorB09

/-
  Programs kept as0 objects, marked: printed by a program (wip/tools/genobj.py). No condition.
-/
set_option linter.unusedVariables false
set_option linter.unusedSimpArgs false
namespace Go.Proofs.YtgalkppgeoknaaaGreatDoor
namespace A
set_option linter.unusedVariables false
set_option linter.unusedSimpArgs false
set_option maxRecDepth 100000
theorem call_mid2 {P : Program} {K : AV → List AObj → Nat → Prop} {f : Nat} {l l' : List AV} {a : AObj} {A A2 B C : List AObj} {c : Nat} {Q : AV → List AObj → Nat → Prop} (hf : Con P f l' B c Q) (hv : Views [] l l')
    (k : ∀ r B' c',c ≤ c' → Q r B' c' → tags B' = tags B ∧ Av [] r ∧ (∀ o,o ∈ B' → AvRows [] o) ∧ K r (a :: (A ++ (A2 ++ (B' ++ C)))) c') : CallW P f l (a :: (A ++ (A2 ++ (B ++ C)))) c K := by
  have e : ∀ X : List AObj,a :: (A ++ (A2 ++ (X ++ C))) = a :: ((A ++ A2) ++ (X ++ C)) := fun X => by simp
  rw [e]
  exact call_midr hf hv fun r B' c' hc hq => by rw [← e]; exact k r B' c' hc hq
theorem call_mid3 {P : Program} {K : AV → List AObj → Nat → Prop} {f : Nat} {l l' : List AV} {a : AObj} {A A2 A3 B C : List AObj} {c : Nat} {Q : AV → List AObj → Nat → Prop} (hf : Con P f l' B c Q) (hv : Views [] l l')
    (k : ∀ r B' c',c ≤ c' → Q r B' c' → tags B' = tags B ∧ Av [] r ∧ (∀ o,o ∈ B' → AvRows [] o) ∧ K r (a :: (A ++ (A2 ++ (A3 ++ (B' ++ C))))) c') : CallW P f l (a :: (A ++ (A2 ++ (A3 ++ (B ++ C))))) c K := by
  have e : ∀ X : List AObj,a :: (A ++ (A2 ++ (A3 ++ (X ++ C)))) = a :: ((A ++ (A2 ++ A3)) ++ (X ++ C)) := fun X => by simp
  rw [e]
  exact call_midr hf hv fun r B' c' hc hq => by rw [← e]; exact k r B' c' hc hq
theorem call_mid4 {P : Program} {K : AV → List AObj → Nat → Prop} {f : Nat} {l l' : List AV} {a : AObj} {A A2 A3 A4 B C : List AObj} {c : Nat} {Q : AV → List AObj → Nat → Prop} (hf : Con P f l' B c Q) (hv : Views [] l l')
    (k : ∀ r B' c',c ≤ c' → Q r B' c' → tags B' = tags B ∧ Av [] r ∧ (∀ o,o ∈ B' → AvRows [] o) ∧ K r (a :: (A ++ (A2 ++ (A3 ++ (A4 ++ (B' ++ C)))))) c') : CallW P f l (a :: (A ++ (A2 ++ (A3 ++ (A4 ++ (B ++ C)))))) c K := by
  have e : ∀ X : List AObj,a :: (A ++ (A2 ++ (A3 ++ (A4 ++ (X ++ C))))) = a :: ((A ++ (A2 ++ (A3 ++ A4))) ++ (X ++ C)) := fun X => by simp
  rw [e]
  exact call_midr hf hv fun r B' c' hc hq => by rw [← e]; exact k r B' c' hc hq
theorem TParam.flat : Flat TParam.enc := fun x a ha => by
  simp [TParam.enc] at ha
  rcases ha with rfl | rfl <;> exact ⟨rfl,fun T => by constructor⟩
def mkParam (k : Int) (x : TParam) : TParam := ⟨mtext k,decide ((k + 1).tmod 3 = 0)⟩
def cParam (x : TParam) : Nat := 2
theorem markParam_nil (k : Int) : Fnc Tryz.prog 71 [.nsl,.int .i64 k] (.int .i64 k) := by
  refine fn_of c71 (by simp [F71]) fun c => ?_
  unfold F71
  simp
  refine loop_drop 0 (fun i e H c' => e 0 = .nsl ∧ e 1 = .int .i64 k ∧ e 5 = .int .i64 0 ∧ H = []) ⟨rfl,rfl,rfl,rfl⟩ ?_
  intro i e H c hi ⟨e0,e1,e5,hH⟩ N hN
  subst hH
  simp [e0,e1,e5]
  exact fin_plain ⟨rfl,rfl⟩
theorem szL_cParam (l : List TParam) : l.length ≤ szL cParam l := by
  induction l with
  | nil => simp
  | cons x l ih => simp [szL,cParam] at ih ⊢; omega
theorem szL_eParam (l : List TParam) : szL cParam l = 2 * l.length := by
  show szL (fun _ => 2) l = _
  rw [szL_const]
theorem markParam_con1 {l : List TParam} (hz : szL cParam l ≤ 16777216) {k : Int} (hk : 0 ≤ k ∧ k ≤ 1099511627776) (t c : Nat) :
    Con Tryz.prog 71 [.ref 0 t 2 l.length,.int .i64 k] ([⟨false,t,2,l.map TParam.enc⟩]) c fun r H' _ => r = .int .i64 (k + szL cParam l) ∧ H' = [⟨false,t,2,(mks mkParam cParam k l).map TParam.enc⟩] := by
  have hln := szL_cParam l
  refine con_of c71 (by simp [F71]) ?_
  unfold F71
  simp
  refine loop_drop l.length (fun i e H c' => e 0 = .ref 0 t 2 l.length ∧ e 1 = .int .i64 (k + szL cParam (l.take i)) ∧ e 5 = .int .i64 i ∧ H = [⟨false,t,2,(mixed mkParam cParam k l i).map TParam.enc⟩]) ⟨rfl,by simp [szL],rfl,by rw [mixed_zero]⟩ ?_
  intro i e H c hi ⟨e0,e1,e5,hH⟩ N hN
  subst hH
  have hs := mixed_set mkParam cParam k l (i := i)
  have hst := fun h : i < l.length => szL_step cParam l h
  have hle := szL_le cParam l i
  have hle1 := szL_le cParam l (i + 1)
  generalize hjj : k + (szL cParam (l.take i) : Int) = j at e1 hs
  simp [e0,e1,e5]
  refine ⟨fun h => ?_,fun h => ?_⟩
  · have hs := hs h
    have hst := hst h
    have hg := mixed_get mkParam cParam k l h
    have hx := szL_mem (sz := cParam) (List.getElem_mem h)
    generalize l[i] = x at hs hst hg hx
    simp only [cParam] at hx hst
    have w0 : IntKind.i64.wrap (j + 1) = j + 1 := wrap64 (by omega) (by omega)
    have w1 : IntKind.i64.wrap (j + 1 + 1) = j + 1 + 1 := wrap64 (by omega) (by omega)
    refine call_fn0 (mtext_fn (by omega)) .str fun _ _ => ?_
    simp [e0,e1,e5,h]
    refine ⟨_,hg,?_⟩
    simp [e0,e1,e5,h,mixed_len,w0,w1,putA,TParam.enc]
    refine hN _ _ _ _ h (List.Sublist.refl _) ⟨by simp [upd,e0],?_,by simp [upd]; exact step64 (by unfold mx; omega) h,?_⟩
    · simp [upd,w0,w1,hst]; omega
    · rw [← hs,List.map_set]
      simp [mkParam,TParam.enc,w0,w1]
  · have h1 : i = l.length := by omega
    subst h1
    refine fin_all ⟨?_,?_⟩
    · rw [← hjj]; simp
    · rw [mixed_all]
theorem markParam_con {s : SL TParam} (hz : szL cParam s.list ≤ 16777216) {k : Int} (hk : 0 ≤ k ∧ k ≤ 1099511627776) (c : Nat) :
    Con Tryz.prog 71 [s.ref 2,.int .i64 k] (s.wood 2 TParam.enc noInn) c fun r H' _ => r = .int .i64 (k + szL cParam s.list) ∧ H' = (s.marks mkParam cParam k).wood 2 TParam.enc noInn := by
  cases s with
  | nil =>
    have := markParam_nil k c
    simpa [SL.ref,SL.wood,SL.marks,szL] using this
  | mk t l =>
    have := markParam_con1 (l := l) hz hk t c
    simpa [SL.ref,SL.wood,SL.marks,wood_flat] using this
theorem TIns.flat : Flat TIns.enc := fun x a ha => by
  simp [TIns.enc] at ha
  rcases ha with rfl | rfl | rfl | rfl | rfl <;> exact ⟨rfl,fun T => by constructor⟩
def mkIns (k : Int) (x : TIns) : TIns := ⟨k,k + 1,k + 1 + 1,mtext (k + 1 + 1 + 1),mtext (k + 1 + 1 + 1 + 1)⟩
def cIns (x : TIns) : Nat := 5
theorem markIns_nil (k : Int) : Fnc Tryz.prog 73 [.nsl,.int .i64 k] (.int .i64 k) := by
  refine fn_of c73 (by simp [F73]) fun c => ?_
  unfold F73
  simp
  refine loop_drop 0 (fun i e H c' => e 0 = .nsl ∧ e 1 = .int .i64 k ∧ e 5 = .int .i64 0 ∧ H = []) ⟨rfl,rfl,rfl,rfl⟩ ?_
  intro i e H c hi ⟨e0,e1,e5,hH⟩ N hN
  subst hH
  simp [e0,e1,e5]
  exact fin_plain ⟨rfl,rfl⟩
theorem szL_cIns (l : List TIns) : l.length ≤ szL cIns l := by
  induction l with
  | nil => simp
  | cons x l ih => simp [szL,cIns] at ih ⊢; omega
theorem szL_eIns (l : List TIns) : szL cIns l = 5 * l.length := by
  show szL (fun _ => 5) l = _
  rw [szL_const]
theorem markIns_con1 {l : List TIns} (hz : szL cIns l ≤ 16777216) {k : Int} (hk : 0 ≤ k ∧ k ≤ 1099511627776) (t c : Nat) :
    Con Tryz.prog 73 [.ref 0 t 5 l.length,.int .i64 k] ([⟨false,t,5,l.map TIns.enc⟩]) c fun r H' _ => r = .int .i64 (k + szL cIns l) ∧ H' = [⟨false,t,5,(mks mkIns cIns k l).map TIns.enc⟩] := by
  have hln := szL_cIns l
  refine con_of c73 (by simp [F73]) ?_
  unfold F73
  simp
  refine loop_drop l.length (fun i e H c' => e 0 = .ref 0 t 5 l.length ∧ e 1 = .int .i64 (k + szL cIns (l.take i)) ∧ e 5 = .int .i64 i ∧ H = [⟨false,t,5,(mixed mkIns cIns k l i).map TIns.enc⟩]) ⟨rfl,by simp [szL],rfl,by rw [mixed_zero]⟩ ?_
  intro i e H c hi ⟨e0,e1,e5,hH⟩ N hN
  subst hH
  have hs := mixed_set mkIns cIns k l (i := i)
  have hst := fun h : i < l.length => szL_step cIns l h
  have hle := szL_le cIns l i
  have hle1 := szL_le cIns l (i + 1)
  generalize hjj : k + (szL cIns (l.take i) : Int) = j at e1 hs
  simp [e0,e1,e5]
  refine ⟨fun h => ?_,fun h => ?_⟩
  · have hs := hs h
    have hst := hst h
    have hg := mixed_get mkIns cIns k l h
    have hx := szL_mem (sz := cIns) (List.getElem_mem h)
    generalize l[i] = x at hs hst hg hx
    simp only [cIns] at hx hst
    have w0 : IntKind.i64.wrap (j + 1) = j + 1 := wrap64 (by omega) (by omega)
    have w1 : IntKind.i64.wrap (j + 1 + 1) = j + 1 + 1 := wrap64 (by omega) (by omega)
    have w2 : IntKind.i64.wrap (j + 1 + 1 + 1) = j + 1 + 1 + 1 := wrap64 (by omega) (by omega)
    have w3 : IntKind.i64.wrap (j + 1 + 1 + 1 + 1) = j + 1 + 1 + 1 + 1 := wrap64 (by omega) (by omega)
    have w4 : IntKind.i64.wrap (j + 1 + 1 + 1 + 1 + 1) = j + 1 + 1 + 1 + 1 + 1 := wrap64 (by omega) (by omega)
    refine ⟨h,x,hg,?_⟩
    simp [e0,e1,e5,h,mixed_len,w0,w1,w2,w3,w4,putA,TIns.enc]
    refine call_fn0 (mtext_fn (by omega)) .str fun _ _ => ?_
    simp [e0,e1,e5,h,mixed_len,w0,w1,w2,w3,w4,putA,TIns.enc]
    refine call_fn0 (mtext_fn (by omega)) .str fun _ _ => ?_
    simp [e0,e1,e5,h,mixed_len,w0,w1,w2,w3,w4,putA,TIns.enc]
    refine hN _ _ _ _ h (List.Sublist.refl _) ⟨by simp [upd,e0],?_,by simp [upd]; exact step64 (by unfold mx; omega) h,?_⟩
    · simp [upd,w0,w1,w2,w3,w4,hst]; omega
    · rw [← hs,List.map_set]
      simp [mkIns,TIns.enc,w0,w1,w2,w3,w4]
  · have h1 : i = l.length := by omega
    subst h1
    refine fin_all ⟨?_,?_⟩
    · rw [← hjj]; simp
    · rw [mixed_all]
theorem markIns_con {s : SL TIns} (hz : szL cIns s.list ≤ 16777216) {k : Int} (hk : 0 ≤ k ∧ k ≤ 1099511627776) (c : Nat) :
    Con Tryz.prog 73 [s.ref 5,.int .i64 k] (s.wood 5 TIns.enc noInn) c fun r H' _ => r = .int .i64 (k + szL cIns s.list) ∧ H' = (s.marks mkIns cIns k).wood 5 TIns.enc noInn := by
  cases s with
  | nil =>
    have := markIns_nil k c
    simpa [SL.ref,SL.wood,SL.marks,szL] using this
  | mk t l =>
    have := markIns_con1 (l := l) hz hk t c
    simpa [SL.ref,SL.wood,SL.marks,wood_flat] using this
theorem TMethod.flat : Flat TMethod.enc := fun x a ha => by
  simp [TMethod.enc] at ha
  rcases ha with rfl | rfl | rfl | rfl | rfl <;> exact ⟨rfl,fun T => by constructor⟩
def mkMethod (k : Int) (x : TMethod) : TMethod := ⟨mtext k,mtext (k + 1),mtext (k + 1 + 1),decide ((k + 1 + 1 + 1).tmod 3 = 0),decide ((k + 1 + 1 + 1 + 1).tmod 3 = 0)⟩
def cMethod (x : TMethod) : Nat := 5
theorem markMethod_nil (k : Int) : Fnc Tryz.prog 75 [.nsl,.int .i64 k] (.int .i64 k) := by
  refine fn_of c75 (by simp [F75]) fun c => ?_
  unfold F75
  simp
  refine loop_drop 0 (fun i e H c' => e 0 = .nsl ∧ e 1 = .int .i64 k ∧ e 5 = .int .i64 0 ∧ H = []) ⟨rfl,rfl,rfl,rfl⟩ ?_
  intro i e H c hi ⟨e0,e1,e5,hH⟩ N hN
  subst hH
  simp [e0,e1,e5]
  exact fin_plain ⟨rfl,rfl⟩
theorem szL_cMethod (l : List TMethod) : l.length ≤ szL cMethod l := by
  induction l with
  | nil => simp
  | cons x l ih => simp [szL,cMethod] at ih ⊢; omega
theorem szL_eMethod (l : List TMethod) : szL cMethod l = 5 * l.length := by
  show szL (fun _ => 5) l = _
  rw [szL_const]
theorem markMethod_con1 {l : List TMethod} (hz : szL cMethod l ≤ 16777216) {k : Int} (hk : 0 ≤ k ∧ k ≤ 1099511627776) (t c : Nat) :
    Con Tryz.prog 75 [.ref 0 t 5 l.length,.int .i64 k] ([⟨false,t,5,l.map TMethod.enc⟩]) c fun r H' _ => r = .int .i64 (k + szL cMethod l) ∧ H' = [⟨false,t,5,(mks mkMethod cMethod k l).map TMethod.enc⟩] := by
  have hln := szL_cMethod l
  refine con_of c75 (by simp [F75]) ?_
  unfold F75
  simp
  refine loop_drop l.length (fun i e H c' => e 0 = .ref 0 t 5 l.length ∧ e 1 = .int .i64 (k + szL cMethod (l.take i)) ∧ e 5 = .int .i64 i ∧ H = [⟨false,t,5,(mixed mkMethod cMethod k l i).map TMethod.enc⟩]) ⟨rfl,by simp [szL],rfl,by rw [mixed_zero]⟩ ?_
  intro i e H c hi ⟨e0,e1,e5,hH⟩ N hN
  subst hH
  have hs := mixed_set mkMethod cMethod k l (i := i)
  have hst := fun h : i < l.length => szL_step cMethod l h
  have hle := szL_le cMethod l i
  have hle1 := szL_le cMethod l (i + 1)
  generalize hjj : k + (szL cMethod (l.take i) : Int) = j at e1 hs
  simp [e0,e1,e5]
  refine ⟨fun h => ?_,fun h => ?_⟩
  · have hs := hs h
    have hst := hst h
    have hg := mixed_get mkMethod cMethod k l h
    have hx := szL_mem (sz := cMethod) (List.getElem_mem h)
    generalize l[i] = x at hs hst hg hx
    simp only [cMethod] at hx hst
    have w0 : IntKind.i64.wrap (j + 1) = j + 1 := wrap64 (by omega) (by omega)
    have w1 : IntKind.i64.wrap (j + 1 + 1) = j + 1 + 1 := wrap64 (by omega) (by omega)
    have w2 : IntKind.i64.wrap (j + 1 + 1 + 1) = j + 1 + 1 + 1 := wrap64 (by omega) (by omega)
    have w3 : IntKind.i64.wrap (j + 1 + 1 + 1 + 1) = j + 1 + 1 + 1 + 1 := wrap64 (by omega) (by omega)
    have w4 : IntKind.i64.wrap (j + 1 + 1 + 1 + 1 + 1) = j + 1 + 1 + 1 + 1 + 1 := wrap64 (by omega) (by omega)
    refine call_fn0 (mtext_fn (by omega)) .str fun _ _ => ?_
    simp [e0,e1,e5,h]
    refine ⟨_,hg,?_⟩
    simp [e0,e1,e5,h,mixed_len,w0,w1,w2,w3,w4,putA,TMethod.enc]
    refine call_fn0 (mtext_fn (by omega)) .str fun _ _ => ?_
    simp [e0,e1,e5,h,mixed_len,w0,w1,w2,w3,w4,putA,TMethod.enc]
    refine call_fn0 (mtext_fn (by omega)) .str fun _ _ => ?_
    simp [e0,e1,e5,h,mixed_len,w0,w1,w2,w3,w4,putA,TMethod.enc]
    refine hN _ _ _ _ h (List.Sublist.refl _) ⟨by simp [upd,e0],?_,by simp [upd]; exact step64 (by unfold mx; omega) h,?_⟩
    · simp [upd,w0,w1,w2,w3,w4,hst]; omega
    · rw [← hs,List.map_set]
      simp [mkMethod,TMethod.enc,w0,w1,w2,w3,w4]
  · have h1 : i = l.length := by omega
    subst h1
    refine fin_all ⟨?_,?_⟩
    · rw [← hjj]; simp
    · rw [mixed_all]
theorem markMethod_con {s : SL TMethod} (hz : szL cMethod s.list ≤ 16777216) {k : Int} (hk : 0 ≤ k ∧ k ≤ 1099511627776) (c : Nat) :
    Con Tryz.prog 75 [s.ref 5,.int .i64 k] (s.wood 5 TMethod.enc noInn) c fun r H' _ => r = .int .i64 (k + szL cMethod s.list) ∧ H' = (s.marks mkMethod cMethod k).wood 5 TMethod.enc noInn := by
  cases s with
  | nil =>
    have := markMethod_nil k c
    simpa [SL.ref,SL.wood,SL.marks,szL] using this
  | mk t l =>
    have := markMethod_con1 (l := l) hz hk t c
    simpa [SL.ref,SL.wood,SL.marks,wood_flat] using this
def TFunc.encO (s : TFunc) : List AV := [.str s.Name,s.Params.ref 2,s.Uses.ref 2,s.Slots.ref 1,.bool s.Gen,s.Code.ref 5]
def TFunc.inn (s : TFunc) : List AObj := s.Params.wood 2 TParam.enc noInn ++ (s.Uses.wood 2 TParam.enc noInn ++ (s.Slots.wood 1 encS noInn ++ (s.Code.wood 5 TIns.enc noInn)))
@[simp] theorem TFunc.lenO (s : TFunc) : s.encO.length = 6 := (rfl)
theorem TFunc.freeO : ∀ (x : TFunc) a,a ∈ x.encO → Free a := fun x a ha => by
  simp [TFunc.encO] at ha
  rcases ha with rfl | rfl | rfl | rfl | rfl | rfl
  · exact free_str _
  · exact free_ref _ _
  · exact free_ref _ _
  · exact free_ref _ _
  · exact free_bool _
  · exact free_ref _ _
theorem TFunc.freeI : ∀ (x : TFunc) o,o ∈ x.inn → ∀ T,AvRows T o := fun x o ho => by
  simp only [TFunc.inn,List.mem_append] at ho
  rcases ho with ho | ho | ho | ho
  · exact flat_free TParam.flat _ _ o ho
  · exact flat_free TParam.flat _ _ o ho
  · exact flat_free encS_flat _ _ o ho
  · exact flat_free TIns.flat _ _ o ho
theorem TFunc.viewO {S : List AObj} (x : TFunc) (h : ∀ o,o ∈ x.inn → o ∈ S) : ∀ (j : Nat) (a a' : AV),x.encO[j]? = some a → x.enc[j]? = some a' → View S a a' := fun j a a' h1 h2 => by
  match j,h1,h2 with
  | 0,h1,h2 => simp [TFunc.encO] at h1; simp [TFunc.enc] at h2; subst h1; subst h2; exact .refl _
  | 1,h1,h2 => simp [TFunc.encO] at h1; simp [TFunc.enc] at h2; subst h1; subst h2; exact view_flat (fun o ho => h o (by simp [TFunc.inn,ho])) TParam.flat.cells
  | 2,h1,h2 => simp [TFunc.encO] at h1; simp [TFunc.enc] at h2; subst h1; subst h2; exact view_flat (fun o ho => h o (by simp [TFunc.inn,ho])) TParam.flat.cells
  | 3,h1,h2 => simp [TFunc.encO] at h1; simp [TFunc.enc] at h2; subst h1; subst h2; exact view_flat (fun o ho => h o (by simp [TFunc.inn,ho])) encS_flat.cells
  | 4,h1,h2 => simp [TFunc.encO] at h1; simp [TFunc.enc] at h2; subst h1; subst h2; exact .refl _
  | 5,h1,h2 => simp [TFunc.encO] at h1; simp [TFunc.enc] at h2; subst h1; subst h2; exact view_flat (fun o ho => h o (by simp [TFunc.inn,ho])) TIns.flat.cells
  | j + 6,h1,h2 => simp [TFunc.encO] at h1
theorem view_OFunc {S : List AObj} {s : SL TFunc} (hs : ∀ o,o ∈ s.wood 6 TFunc.encO TFunc.inn → o ∈ S) : View S (s.ref 6) (s.av 6 TFunc.enc) :=
  view_wood hs (fun x => TFunc.cells x) (fun _ => rfl) fun x h => TFunc.viewO x h
def mkFunc (k : Int) (x : TFunc) : TFunc := ⟨mtext k,x.Params.marks mkParam cParam (k + 1),x.Uses.marks mkParam cParam (k + 1 + szL cParam x.Params.list),x.Slots.marks mkS cS (k + 1 + szL cParam x.Params.list + szL cParam x.Uses.list),decide ((k + 1 + szL cParam x.Params.list + szL cParam x.Uses.list + szL cS x.Slots.list).tmod 3 = 0),x.Code.marks mkIns cIns (k + 1 + szL cParam x.Params.list + szL cParam x.Uses.list + szL cS x.Slots.list + 1)⟩
def cFunc (x : TFunc) : Nat := 2 + szL cParam x.Params.list + szL cParam x.Uses.list + szL cS x.Slots.list + szL cIns x.Code.list
theorem markFunc_nil (k : Int) : Fnc Tryz.prog 37 [.nsl,.int .i64 k] (.int .i64 k) := by
  refine fn_of c37 (by simp [F37]) fun c => ?_
  unfold F37
  simp
  refine loop_drop 0 (fun i e H c' => e 0 = .nsl ∧ e 1 = .int .i64 k ∧ e 5 = .int .i64 0 ∧ H = []) ⟨rfl,rfl,rfl,rfl⟩ ?_
  intro i e H c hi ⟨e0,e1,e5,hH⟩ N hN
  subst hH
  simp [e0,e1,e5]
  exact fin_plain ⟨rfl,rfl⟩
theorem szL_cFunc (l : List TFunc) : l.length ≤ szL cFunc l := by
  induction l with
  | nil => simp
  | cons x l ih => simp [szL,cFunc] at ih ⊢; omega
theorem mkFunc_encO (k : Int) (x : TFunc) : (mkFunc k x).encO = [.str (mtext (k)),x.Params.ref 2,x.Uses.ref 2,x.Slots.ref 1,.bool (decide ((k + 1 + szL cParam x.Params.list + szL cParam x.Uses.list + szL cS x.Slots.list).tmod 3 = 0)),x.Code.ref 5] := by
  simp [mkFunc,TFunc.encO,SL.marks_ref]
theorem mkFunc_tags (k : Int) (x : TFunc) : tags (mkFunc k x).inn = tags x.inn := by
  have eT : ∀ X Y : List AObj,tags (X ++ Y) = tags X ++ tags Y := fun X Y => by simp [tags]
  simp only [TFunc.inn,mkFunc,vItems,eT,flat_marks (enc := TParam.enc) (w := 2) mkParam cParam,flat_marks (enc := encS) (w := 1) mkS cS,flat_marks (enc := TIns.enc) (w := 5) mkIns cIns]
theorem markFunc_con1 {l : List TFunc} (hz : szL cFunc l ≤ 16777216) {k : Int} (hk : 0 ≤ k ∧ k ≤ 549755813888) (t c : Nat) :
    Con Tryz.prog 37 [.ref 0 t 6 l.length,.int .i64 k] (wood t 6 TFunc.encO TFunc.inn l) c fun r H' _ => r = .int .i64 (k + szL cFunc l) ∧ H' = wood t 6 TFunc.encO TFunc.inn (mks mkFunc cFunc k l) := by
  have hln := szL_cFunc l
  refine con_of c37 (by simp [F37]) ?_
  unfold F37
  simp
  refine loop_drop l.length (fun i e H c' => e 0 = .ref 0 t 6 l.length ∧ e 1 = .int .i64 (k + szL cFunc (l.take i)) ∧ e 5 = .int .i64 i ∧ H = ⟨false,t,6,(mixed mkFunc cFunc k l i).map TFunc.encO⟩ :: (mixed mkFunc cFunc k l i).flatMap TFunc.inn) ⟨rfl,by simp [szL],rfl,by rw [mixed_zero]; rfl⟩ ?_
  intro i e H c hi ⟨e0,e1,e5,hH⟩ N hN
  subst hH
  have hs := mixed_set mkFunc cFunc k l (i := i)
  have hst := fun h : i < l.length => szL_step cFunc l h
  have hle := szL_le cFunc l i
  have hle1 := szL_le cFunc l (i + 1)
  have hfl := fun h : i < l.length => mixed_flat (mk := mkFunc) (cnt := cFunc) (k := k) (inn := TFunc.inn) h
  have hfl' := fun h : i < l.length => mixed_flat' (mk := mkFunc) (cnt := cFunc) (k := k) (inn := TFunc.inn) h
  generalize hjj : k + (szL cFunc (l.take i) : Int) = j at e1 hs hfl'
  simp [e0,e1,e5]
  refine ⟨fun h => ?_,fun h => ?_⟩
  · have hs := hs h
    have hst := hst h
    have hg := mixed_get mkFunc cFunc k l h
    have hx := szL_mem (sz := cFunc) (List.getElem_mem h)
    rw [hfl h]
    have hfl' := hfl' h
    generalize l[i] = x at hs hst hg hx hfl'
    generalize (mks mkFunc cFunc k (l.take i)).flatMap TFunc.inn = PRE at hfl' ⊢
    generalize (l.drop (i + 1)).flatMap TFunc.inn = POST at hfl' ⊢
    simp only [cFunc] at hx hst
    have w0 : IntKind.i64.wrap (j + 1) = j + 1 := wrap64 (by omega) (by omega)
    have w4 : IntKind.i64.wrap (j + 1 + szL cParam x.Params.list + szL cParam x.Uses.list + szL cS x.Slots.list + 1) = j + 1 + szL cParam x.Params.list + szL cParam x.Uses.list + szL cS x.Slots.list + 1 := wrap64 (by omega) (by omega)
    refine call_fn0 (mtext_fn (by omega)) .str fun _ _ => ?_
    simp [e0,e1,e5,h]
    refine ⟨_,hg,?_⟩
    simp [e0,e1,e5,h,mixed_len,w0,w4,putA,TFunc.encO,TFunc.inn]
    refine call_midr (f := 71) (B := x.Params.wood 2 TParam.enc noInn) (markParam_con (s := x.Params) (by omega) (k := j + 1) ⟨by omega,by omega⟩ _) (Views.refl _ _) fun r B' c' hc ⟨q1,q2⟩ => ?_
    subst q1; subst q2
    refine ⟨flat_marks (enc := TParam.enc) (w := 2) mkParam cParam _ x.Params,.int,fun o ho => flat_free TParam.flat _ _ o ho _,?_⟩
    simp [e0,e1,e5,h,mixed_len,w0,w4,putA,TFunc.encO,TFunc.inn]
    refine call_mid2 (f := 71) (B := x.Uses.wood 2 TParam.enc noInn) (markParam_con (s := x.Uses) (by omega) (k := j + 1 + szL cParam x.Params.list) ⟨by omega,by omega⟩ _) (Views.refl _ _) fun r B' c' hc ⟨q1,q2⟩ => ?_
    subst q1; subst q2
    refine ⟨flat_marks (enc := TParam.enc) (w := 2) mkParam cParam _ x.Uses,.int,fun o ho => flat_free TParam.flat _ _ o ho _,?_⟩
    simp [e0,e1,e5,h,mixed_len,w0,w4,putA,TFunc.encO,TFunc.inn]
    refine call_mid3 (f := 72) (B := x.Slots.wood 1 encS noInn) (markString_con (s := x.Slots) (by omega) (k := j + 1 + szL cParam x.Params.list + szL cParam x.Uses.list) ⟨by omega,by omega⟩ _) (Views.refl _ _) fun r B' c' hc ⟨q1,q2⟩ => ?_
    subst q1; subst q2
    refine ⟨flat_marks (enc := encS) (w := 1) mkS cS _ x.Slots,.int,fun o ho => flat_free encS_flat _ _ o ho _,?_⟩
    simp [e0,e1,e5,h,mixed_len,w0,w4,putA,TFunc.encO,TFunc.inn]
    refine call_mid4 (f := 73) (B := x.Code.wood 5 TIns.enc noInn) (markIns_con (s := x.Code) (by omega) (k := j + 1 + szL cParam x.Params.list + szL cParam x.Uses.list + szL cS x.Slots.list + 1) ⟨by omega,by omega⟩ _) (Views.refl _ _) fun r B' c' hc ⟨q1,q2⟩ => ?_
    subst q1; subst q2
    refine ⟨flat_marks (enc := TIns.enc) (w := 5) mkIns cIns _ x.Code,.int,fun o ho => flat_free TIns.flat _ _ o ho _,?_⟩
    simp [e0,e1,e5,h,mixed_len,w0,w4,putA,TFunc.encO,TFunc.inn]
    refine hN _ _ _ _ h (List.Sublist.refl _) ⟨by simp [upd,e0],?_,by simp [upd]; exact step64 (by unfold mx; omega) h,?_⟩
    · simp [upd,w0,w4,hst]; omega
    · rw [hfl',← hs,List.map_set,mkFunc_encO]
      simp [mkFunc,TFunc.inn]
  · have h1 : i = l.length := by omega
    subst h1
    refine fin_all ⟨?_,?_⟩
    · rw [← hjj]; simp
    · rw [mixed_all]; rfl
theorem markFunc_con {s : SL TFunc} (hz : szL cFunc s.list ≤ 16777216) {k : Int} (hk : 0 ≤ k ∧ k ≤ 549755813888) (c : Nat) :
    Con Tryz.prog 37 [s.ref 6,.int .i64 k] (s.wood 6 TFunc.encO TFunc.inn) c fun r H' _ => r = .int .i64 (k + szL cFunc s.list) ∧ H' = (s.marks mkFunc cFunc k).wood 6 TFunc.encO TFunc.inn := by
  cases s with
  | nil =>
    have := markFunc_nil k c
    simpa [SL.ref,SL.wood,SL.marks,szL] using this
  | mk t l =>
    have := markFunc_con1 (l := l) hz hk t c
    exact this
def TField.encO (s : TField) : List AV := [.str s.Name,.str s.Owner,.bool s.Private,.int .i64 s.Init.Kind,.int .i64 s.Init.Num,.str s.Init.Str,.int .i64 s.Init.Next,s.Init.Items.ref 8]
def TField.inn (s : TField) : List AObj := s.Init.Items.wood 8 TEntry.encO TEntry.inn
theorem TField.freeO : ∀ (x : TField) a,a ∈ x.encO → Free a := fun x a ha => by
  simp [TField.encO] at ha
  rcases ha with rfl | rfl | rfl | rfl | rfl | rfl | rfl | rfl
  · exact free_str _
  · exact free_str _
  · exact free_bool _
  · exact free_int _ _
  · exact free_int _ _
  · exact free_str _
  · exact free_int _ _
  · exact free_ref _ _
theorem TField.freeI : ∀ (x : TField) o,o ∈ x.inn → ∀ T,AvRows T o := fun x o ho => by
  exact free_wood TEntry.freeO TEntry.freeI _ o ho
theorem TField.viewO {S : List AObj} (x : TField) (h : ∀ o,o ∈ x.inn → o ∈ S) : ∀ (j : Nat) (a a' : AV),x.encO[j]? = some a → x.enc[j]? = some a' → View S a a' := fun j a a' h1 h2 => by
  match j,h1,h2 with
  | 0,h1,h2 => simp [TField.encO] at h1; simp [TField.enc] at h2; subst h1; subst h2; exact .refl _
  | 1,h1,h2 => simp [TField.encO] at h1; simp [TField.enc] at h2; subst h1; subst h2; exact .refl _
  | 2,h1,h2 => simp [TField.encO] at h1; simp [TField.enc] at h2; subst h1; subst h2; exact .refl _
  | 3,h1,h2 => simp [TField.encO] at h1; simp [TField.enc] at h2; subst h1; subst h2; exact .refl _
  | 4,h1,h2 => simp [TField.encO] at h1; simp [TField.enc] at h2; subst h1; subst h2; exact .refl _
  | 5,h1,h2 => simp [TField.encO] at h1; simp [TField.enc] at h2; subst h1; subst h2; exact .refl _
  | 6,h1,h2 => simp [TField.encO] at h1; simp [TField.enc] at h2; subst h1; subst h2; exact .refl _
  | 7,h1,h2 => simp [TField.encO] at h1; simp [TField.enc] at h2; subst h1; subst h2; exact view_OEntry (fun o ho => h o (by simp [TField.inn,ho]))
  | j + 8,h1,h2 => simp [TField.encO] at h1
theorem view_OField {S : List AObj} {s : SL TField} (hs : ∀ o,o ∈ s.wood 8 TField.encO TField.inn → o ∈ S) : View S (s.ref 8) (s.av 8 TField.enc) :=
  view_wood hs (fun x => TField.cells x) (fun _ => rfl) fun x h => TField.viewO x h
def mkField (k : Int) (x : TField) : TField := ⟨mtext k,mtext (k + 1),decide ((k + 1 + 1).tmod 3 = 0),⟨k + 1 + 1 + 1,k + 1 + 1 + 1 + 1,mtext (k + 1 + 1 + 1 + 1 + 1),k + 1 + 1 + 1 + 1 + 1 + 1,x.Init.Items.marks mkEntry cEntry (k + 1 + 1 + 1 + 1 + 1 + 1 + 1)⟩⟩
def cField (x : TField) : Nat := 7 + szL cEntry x.Init.Items.list
theorem markField_nil (k : Int) : Fnc Tryz.prog 74 [.nsl,.int .i64 k] (.int .i64 k) := by
  refine fn_of c74 (by simp [F74]) fun c => ?_
  unfold F74
  simp
  refine loop_drop 0 (fun i e H c' => e 0 = .nsl ∧ e 1 = .int .i64 k ∧ e 5 = .int .i64 0 ∧ H = []) ⟨rfl,rfl,rfl,rfl⟩ ?_
  intro i e H c hi ⟨e0,e1,e5,hH⟩ N hN
  subst hH
  simp [e0,e1,e5]
  exact fin_plain ⟨rfl,rfl⟩
theorem szL_cField (l : List TField) : l.length ≤ szL cField l := by
  induction l with
  | nil => simp
  | cons x l ih => simp [szL,cField] at ih ⊢; omega
theorem mkField_encO (k : Int) (x : TField) : (mkField k x).encO = [.str (mtext (k)),.str (mtext (k + 1)),.bool (decide ((k + 1 + 1).tmod 3 = 0)),.int .i64 (k + 1 + 1 + 1),.int .i64 (k + 1 + 1 + 1 + 1),.str (mtext (k + 1 + 1 + 1 + 1 + 1)),.int .i64 (k + 1 + 1 + 1 + 1 + 1 + 1),x.Init.Items.ref 8] := by
  simp [mkField,TField.encO,SL.marks_ref]
theorem mkField_tags (k : Int) (x : TField) : tags (mkField k x).inn = tags x.inn := by
  have eT : ∀ X Y : List AObj,tags (X ++ Y) = tags X ++ tags Y := fun X Y => by simp [tags]
  simp only [TField.inn,mkField,vItems,eT,tags_wood (w := 8) (encO := TEntry.encO) (inn := TEntry.inn) (mk := mkEntry) (cnt := cEntry) mkEntry_tags]
theorem markField_con1 {l : List TField} (hz : szL cField l ≤ 16777216) {k : Int} (hk : 0 ≤ k ∧ k ≤ 549755813888) (t c : Nat) :
    Con Tryz.prog 74 [.ref 0 t 8 l.length,.int .i64 k] (wood t 8 TField.encO TField.inn l) c fun r H' _ => r = .int .i64 (k + szL cField l) ∧ H' = wood t 8 TField.encO TField.inn (mks mkField cField k l) := by
  have hln := szL_cField l
  refine con_of c74 (by simp [F74]) ?_
  unfold F74
  simp
  refine loop_drop l.length (fun i e H c' => e 0 = .ref 0 t 8 l.length ∧ e 1 = .int .i64 (k + szL cField (l.take i)) ∧ e 5 = .int .i64 i ∧ H = ⟨false,t,8,(mixed mkField cField k l i).map TField.encO⟩ :: (mixed mkField cField k l i).flatMap TField.inn) ⟨rfl,by simp [szL],rfl,by rw [mixed_zero]; rfl⟩ ?_
  intro i e H c hi ⟨e0,e1,e5,hH⟩ N hN
  subst hH
  have hs := mixed_set mkField cField k l (i := i)
  have hst := fun h : i < l.length => szL_step cField l h
  have hle := szL_le cField l i
  have hle1 := szL_le cField l (i + 1)
  have hfl := fun h : i < l.length => mixed_flat (mk := mkField) (cnt := cField) (k := k) (inn := TField.inn) h
  have hfl' := fun h : i < l.length => mixed_flat' (mk := mkField) (cnt := cField) (k := k) (inn := TField.inn) h
  generalize hjj : k + (szL cField (l.take i) : Int) = j at e1 hs hfl'
  simp [e0,e1,e5]
  refine ⟨fun h => ?_,fun h => ?_⟩
  · have hs := hs h
    have hst := hst h
    have hg := mixed_get mkField cField k l h
    have hx := szL_mem (sz := cField) (List.getElem_mem h)
    rw [hfl h]
    have hfl' := hfl' h
    generalize l[i] = x at hs hst hg hx hfl'
    generalize (mks mkField cField k (l.take i)).flatMap TField.inn = PRE at hfl' ⊢
    generalize (l.drop (i + 1)).flatMap TField.inn = POST at hfl' ⊢
    simp only [cField] at hx hst
    have w0 : IntKind.i64.wrap (j + 1) = j + 1 := wrap64 (by omega) (by omega)
    have w1 : IntKind.i64.wrap (j + 1 + 1) = j + 1 + 1 := wrap64 (by omega) (by omega)
    have w2 : IntKind.i64.wrap (j + 1 + 1 + 1) = j + 1 + 1 + 1 := wrap64 (by omega) (by omega)
    have w3 : IntKind.i64.wrap (j + 1 + 1 + 1 + 1) = j + 1 + 1 + 1 + 1 := wrap64 (by omega) (by omega)
    have w4 : IntKind.i64.wrap (j + 1 + 1 + 1 + 1 + 1) = j + 1 + 1 + 1 + 1 + 1 := wrap64 (by omega) (by omega)
    have w5 : IntKind.i64.wrap (j + 1 + 1 + 1 + 1 + 1 + 1) = j + 1 + 1 + 1 + 1 + 1 + 1 := wrap64 (by omega) (by omega)
    have w6 : IntKind.i64.wrap (j + 1 + 1 + 1 + 1 + 1 + 1 + 1) = j + 1 + 1 + 1 + 1 + 1 + 1 + 1 := wrap64 (by omega) (by omega)
    refine call_fn0 (mtext_fn (by omega)) .str fun _ _ => ?_
    simp [e0,e1,e5,h]
    refine ⟨_,hg,?_⟩
    simp [e0,e1,e5,h,mixed_len,w0,w1,w2,w3,w4,w5,w6,putA,TField.encO,TField.inn]
    refine call_fn0 (mtext_fn (by omega)) .str fun _ _ => ?_
    simp [e0,e1,e5,h,mixed_len,w0,w1,w2,w3,w4,w5,w6,putA,TField.encO,TField.inn]
    refine call_fn0 (mtext_fn (by omega)) .str fun _ _ => ?_
    simp [e0,e1,e5,h,mixed_len,w0,w1,w2,w3,w4,w5,w6,putA,TField.encO,TField.inn]
    refine call_midr (f := 119) (B := x.Init.Items.wood 8 TEntry.encO TEntry.inn) (markEntry_con (s := x.Init.Items) (by omega) (k := j + 1 + 1 + 1 + 1 + 1 + 1 + 1) ⟨by omega,by omega⟩ _) (Views.refl _ _) fun r B' c' hc ⟨q1,q2⟩ => ?_
    subst q1; subst q2
    refine ⟨tags_wood (w := 8) (encO := TEntry.encO) (inn := TEntry.inn) (mk := mkEntry) (cnt := cEntry) mkEntry_tags _ x.Init.Items,.int,fun o ho => free_wood TEntry.freeO TEntry.freeI _ o ho _,?_⟩
    simp [e0,e1,e5,h,mixed_len,w0,w1,w2,w3,w4,w5,w6,putA,TField.encO,TField.inn]
    refine hN _ _ _ _ h (List.Sublist.refl _) ⟨by simp [upd,e0],?_,by simp [upd]; exact step64 (by unfold mx; omega) h,?_⟩
    · simp [upd,w0,w1,w2,w3,w4,w5,w6,hst]; omega
    · rw [hfl',← hs,List.map_set,mkField_encO]
      simp [mkField,TField.inn]
  · have h1 : i = l.length := by omega
    subst h1
    refine fin_all ⟨?_,?_⟩
    · rw [← hjj]; simp
    · rw [mixed_all]; rfl
theorem markField_con {s : SL TField} (hz : szL cField s.list ≤ 16777216) {k : Int} (hk : 0 ≤ k ∧ k ≤ 549755813888) (c : Nat) :
    Con Tryz.prog 74 [s.ref 8,.int .i64 k] (s.wood 8 TField.encO TField.inn) c fun r H' _ => r = .int .i64 (k + szL cField s.list) ∧ H' = (s.marks mkField cField k).wood 8 TField.encO TField.inn := by
  cases s with
  | nil =>
    have := markField_nil k c
    simpa [SL.ref,SL.wood,SL.marks,szL] using this
  | mk t l =>
    have := markField_con1 (l := l) hz hk t c
    exact this
def TClass.encO (s : TClass) : List AV := [.str s.Name,.str s.Parent,s.Fields.ref 8,s.Methods.ref 5]
def TClass.inn (s : TClass) : List AObj := s.Fields.wood 8 TField.encO TField.inn ++ (s.Methods.wood 5 TMethod.enc noInn)
@[simp] theorem TClass.lenO (s : TClass) : s.encO.length = 4 := (rfl)
theorem TClass.freeO : ∀ (x : TClass) a,a ∈ x.encO → Free a := fun x a ha => by
  simp [TClass.encO] at ha
  rcases ha with rfl | rfl | rfl | rfl
  · exact free_str _
  · exact free_str _
  · exact free_ref _ _
  · exact free_ref _ _
theorem TClass.freeI : ∀ (x : TClass) o,o ∈ x.inn → ∀ T,AvRows T o := fun x o ho => by
  simp only [TClass.inn,List.mem_append] at ho
  rcases ho with ho | ho
  · exact free_wood TField.freeO TField.freeI _ o ho
  · exact flat_free TMethod.flat _ _ o ho
theorem TClass.viewO {S : List AObj} (x : TClass) (h : ∀ o,o ∈ x.inn → o ∈ S) : ∀ (j : Nat) (a a' : AV),x.encO[j]? = some a → x.enc[j]? = some a' → View S a a' := fun j a a' h1 h2 => by
  match j,h1,h2 with
  | 0,h1,h2 => simp [TClass.encO] at h1; simp [TClass.enc] at h2; subst h1; subst h2; exact .refl _
  | 1,h1,h2 => simp [TClass.encO] at h1; simp [TClass.enc] at h2; subst h1; subst h2; exact .refl _
  | 2,h1,h2 => simp [TClass.encO] at h1; simp [TClass.enc] at h2; subst h1; subst h2; exact view_OField (fun o ho => h o (by simp [TClass.inn,ho]))
  | 3,h1,h2 => simp [TClass.encO] at h1; simp [TClass.enc] at h2; subst h1; subst h2; exact view_flat (fun o ho => h o (by simp [TClass.inn,ho])) TMethod.flat.cells
  | j + 4,h1,h2 => simp [TClass.encO] at h1
theorem view_OClass {S : List AObj} {s : SL TClass} (hs : ∀ o,o ∈ s.wood 4 TClass.encO TClass.inn → o ∈ S) : View S (s.ref 4) (s.av 4 TClass.enc) :=
  view_wood hs (fun x => TClass.cells x) (fun _ => rfl) fun x h => TClass.viewO x h
def mkClass (k : Int) (x : TClass) : TClass := ⟨mtext k,mtext (k + 1),x.Fields.marks mkField cField (k + 1 + 1),x.Methods.marks mkMethod cMethod (k + 1 + 1 + szL cField x.Fields.list)⟩
def cClass (x : TClass) : Nat := 2 + szL cField x.Fields.list + szL cMethod x.Methods.list
theorem markClass_nil (k : Int) : Fnc Tryz.prog 38 [.nsl,.int .i64 k] (.int .i64 k) := by
  refine fn_of c38 (by simp [F38]) fun c => ?_
  unfold F38
  simp
  refine loop_drop 0 (fun i e H c' => e 0 = .nsl ∧ e 1 = .int .i64 k ∧ e 5 = .int .i64 0 ∧ H = []) ⟨rfl,rfl,rfl,rfl⟩ ?_
  intro i e H c hi ⟨e0,e1,e5,hH⟩ N hN
  subst hH
  simp [e0,e1,e5]
  exact fin_plain ⟨rfl,rfl⟩
theorem szL_cClass (l : List TClass) : l.length ≤ szL cClass l := by
  induction l with
  | nil => simp
  | cons x l ih => simp [szL,cClass] at ih ⊢; omega
theorem mkClass_encO (k : Int) (x : TClass) : (mkClass k x).encO = [.str (mtext (k)),.str (mtext (k + 1)),x.Fields.ref 8,x.Methods.ref 5] := by
  simp [mkClass,TClass.encO,SL.marks_ref]
theorem mkClass_tags (k : Int) (x : TClass) : tags (mkClass k x).inn = tags x.inn := by
  have eT : ∀ X Y : List AObj,tags (X ++ Y) = tags X ++ tags Y := fun X Y => by simp [tags]
  simp only [TClass.inn,mkClass,vItems,eT,tags_wood (w := 8) (encO := TField.encO) (inn := TField.inn) (mk := mkField) (cnt := cField) mkField_tags,flat_marks (enc := TMethod.enc) (w := 5) mkMethod cMethod]
theorem markClass_con1 {l : List TClass} (hz : szL cClass l ≤ 16777216) {k : Int} (hk : 0 ≤ k ∧ k ≤ 274877906944) (t c : Nat) :
    Con Tryz.prog 38 [.ref 0 t 4 l.length,.int .i64 k] (wood t 4 TClass.encO TClass.inn l) c fun r H' _ => r = .int .i64 (k + szL cClass l) ∧ H' = wood t 4 TClass.encO TClass.inn (mks mkClass cClass k l) := by
  have hln := szL_cClass l
  refine con_of c38 (by simp [F38]) ?_
  unfold F38
  simp
  refine loop_drop l.length (fun i e H c' => e 0 = .ref 0 t 4 l.length ∧ e 1 = .int .i64 (k + szL cClass (l.take i)) ∧ e 5 = .int .i64 i ∧ H = ⟨false,t,4,(mixed mkClass cClass k l i).map TClass.encO⟩ :: (mixed mkClass cClass k l i).flatMap TClass.inn) ⟨rfl,by simp [szL],rfl,by rw [mixed_zero]; rfl⟩ ?_
  intro i e H c hi ⟨e0,e1,e5,hH⟩ N hN
  subst hH
  have hs := mixed_set mkClass cClass k l (i := i)
  have hst := fun h : i < l.length => szL_step cClass l h
  have hle := szL_le cClass l i
  have hle1 := szL_le cClass l (i + 1)
  have hfl := fun h : i < l.length => mixed_flat (mk := mkClass) (cnt := cClass) (k := k) (inn := TClass.inn) h
  have hfl' := fun h : i < l.length => mixed_flat' (mk := mkClass) (cnt := cClass) (k := k) (inn := TClass.inn) h
  generalize hjj : k + (szL cClass (l.take i) : Int) = j at e1 hs hfl'
  simp [e0,e1,e5]
  refine ⟨fun h => ?_,fun h => ?_⟩
  · have hs := hs h
    have hst := hst h
    have hg := mixed_get mkClass cClass k l h
    have hx := szL_mem (sz := cClass) (List.getElem_mem h)
    rw [hfl h]
    have hfl' := hfl' h
    generalize l[i] = x at hs hst hg hx hfl'
    generalize (mks mkClass cClass k (l.take i)).flatMap TClass.inn = PRE at hfl' ⊢
    generalize (l.drop (i + 1)).flatMap TClass.inn = POST at hfl' ⊢
    simp only [cClass] at hx hst
    have w0 : IntKind.i64.wrap (j + 1) = j + 1 := wrap64 (by omega) (by omega)
    have w1 : IntKind.i64.wrap (j + 1 + 1) = j + 1 + 1 := wrap64 (by omega) (by omega)
    refine call_fn0 (mtext_fn (by omega)) .str fun _ _ => ?_
    simp [e0,e1,e5,h]
    refine ⟨_,hg,?_⟩
    simp [e0,e1,e5,h,mixed_len,w0,w1,putA,TClass.encO,TClass.inn]
    refine call_fn0 (mtext_fn (by omega)) .str fun _ _ => ?_
    simp [e0,e1,e5,h,mixed_len,w0,w1,putA,TClass.encO,TClass.inn]
    refine call_midr (f := 74) (B := x.Fields.wood 8 TField.encO TField.inn) (markField_con (s := x.Fields) (by omega) (k := j + 1 + 1) ⟨by omega,by omega⟩ _) (Views.refl _ _) fun r B' c' hc ⟨q1,q2⟩ => ?_
    subst q1; subst q2
    refine ⟨tags_wood (w := 8) (encO := TField.encO) (inn := TField.inn) (mk := mkField) (cnt := cField) mkField_tags _ x.Fields,.int,fun o ho => free_wood TField.freeO TField.freeI _ o ho _,?_⟩
    simp [e0,e1,e5,h,mixed_len,w0,w1,putA,TClass.encO,TClass.inn]
    refine call_mid2 (f := 75) (B := x.Methods.wood 5 TMethod.enc noInn) (markMethod_con (s := x.Methods) (by omega) (k := j + 1 + 1 + szL cField x.Fields.list) ⟨by omega,by omega⟩ _) (Views.refl _ _) fun r B' c' hc ⟨q1,q2⟩ => ?_
    subst q1; subst q2
    refine ⟨flat_marks (enc := TMethod.enc) (w := 5) mkMethod cMethod _ x.Methods,.int,fun o ho => flat_free TMethod.flat _ _ o ho _,?_⟩
    simp [e0,e1,e5,h,mixed_len,w0,w1,putA,TClass.encO,TClass.inn]
    refine hN _ _ _ _ h (List.Sublist.refl _) ⟨by simp [upd,e0],?_,by simp [upd]; exact step64 (by unfold mx; omega) h,?_⟩
    · simp [upd,w0,w1,hst]; omega
    · rw [hfl',← hs,List.map_set,mkClass_encO]
      simp [mkClass,TClass.inn]
  · have h1 : i = l.length := by omega
    subst h1
    refine fin_all ⟨?_,?_⟩
    · rw [← hjj]; simp
    · rw [mixed_all]; rfl
theorem markClass_con {s : SL TClass} (hz : szL cClass s.list ≤ 16777216) {k : Int} (hk : 0 ≤ k ∧ k ≤ 274877906944) (c : Nat) :
    Con Tryz.prog 38 [s.ref 4,.int .i64 k] (s.wood 4 TClass.encO TClass.inn) c fun r H' _ => r = .int .i64 (k + szL cClass s.list) ∧ H' = (s.marks mkClass cClass k).wood 4 TClass.encO TClass.inn := by
  cases s with
  | nil =>
    have := markClass_nil k c
    simpa [SL.ref,SL.wood,SL.marks,szL] using this
  | mk t l =>
    have := markClass_con1 (l := l) hz hk t c
    exact this
def TProgram.encO (s : TProgram) : List AV := [s.Funcs.ref 6,s.Classes.ref 4]
def TProgram.inn (s : TProgram) : List AObj := s.Funcs.wood 6 TFunc.encO TFunc.inn ++ (s.Classes.wood 4 TClass.encO TClass.inn)
@[simp] theorem TProgram.lenO (s : TProgram) : s.encO.length = 2 := (rfl)
@[simp] theorem TProgram.allO (s : TProgram) : s.encO.take 2 = s.encO := (rfl)
@[simp] theorem TProgram.o0 (s : TProgram) (K : AV → Prop) : getW s.encO 0 K = K (s.Funcs.ref 6) := by simp [TProgram.encO]
@[simp] theorem TProgram.o1 (s : TProgram) (K : AV → Prop) : getW s.encO 1 K = K (s.Classes.ref 4) := by simp [TProgram.encO]
theorem TProgram.freeO : ∀ (x : TProgram) a,a ∈ x.encO → Free a := fun x a ha => by
  simp [TProgram.encO] at ha
  rcases ha with rfl | rfl
  · exact free_ref _ _
  · exact free_ref _ _
theorem TProgram.freeI : ∀ (x : TProgram) o,o ∈ x.inn → ∀ T,AvRows T o := fun x o ho => by
  simp only [TProgram.inn,List.mem_append] at ho
  rcases ho with ho | ho
  · exact free_wood TFunc.freeO TFunc.freeI _ o ho
  · exact free_wood TClass.freeO TClass.freeI _ o ho
theorem TProgram.viewO {S : List AObj} (x : TProgram) (h : ∀ o,o ∈ x.inn → o ∈ S) : ∀ (j : Nat) (a a' : AV),x.encO[j]? = some a → x.enc[j]? = some a' → View S a a' := fun j a a' h1 h2 => by
  match j,h1,h2 with
  | 0,h1,h2 => simp [TProgram.encO] at h1; simp [TProgram.enc] at h2; subst h1; subst h2; exact view_OFunc (fun o ho => h o (by simp [TProgram.inn,ho]))
  | 1,h1,h2 => simp [TProgram.encO] at h1; simp [TProgram.enc] at h2; subst h1; subst h2; exact view_OClass (fun o ho => h o (by simp [TProgram.inn,ho]))
  | j + 2,h1,h2 => simp [TProgram.encO] at h1
theorem view_AProgram {S : List AObj} {s : TProgram} (hs : ∀ o,o ∈ s.inn → o ∈ S) : View S (.agg s.encO) (.agg s.enc) :=
  .agg rfl (fun j a ha => TProgram.cells s a (List.mem_of_getElem? ha)) (TProgram.viewO s hs)
set_option maxRecDepth 100000
def retF (c : Nat) : AObj := ⟨false,c,6,[[.str [],.nsl,.nsl,.nsl,.bool false,.nsl]]⟩
def fnO (tf : Nat) (n : List UInt8) (P U X : AV) (g : Bool) (Y : AV) : AObj := ⟨false,tf,6,[[.str n,P,U,X,.bool g,Y]]⟩
def SlotsAt (X : AV) (L : List (List UInt8)) (M : List AObj) : Prop := (L = [] ∧ X = .nsl ∧ M = []) ∨ ∃ o1 ts,X = .ref 6 ts 1 L.length ∧ M = [o1,⟨false,ts,1,L.map encS⟩]
def CodeAt (p : Nat) (Y : AV) (L : List TIns) (M : List AObj) : Prop := (L = [] ∧ Y = .nsl ∧ M = []) ∨ ∃ o1 o2 ts,Y = .ref (p + 2) ts 5 L.length ∧ M = [o1,o2,⟨false,ts,5,L.map TIns.enc⟩]
theorem call_ls {P : Program} {α : Type} {f c i w : Nat} {args : List AV} {tr wr : Nat} {o : AObj} {H : List AObj} {Ob : AObj → Prop} {enc : α → List AV} {L : List α} {K : AV → List AObj → Nat → Prop} (hi : H[i]? = some o) (hf : Con P f (.ptr 0 tr wr 0 0 :: args) [o] c fun r O _ => LsQ Ob w enc L r O)
    (hOb : ∀ o',Ob o' → o'.tag = o.tag ∧ AvRows [] o') (hL : ∀ tp,AvRows [] ⟨false,tp,w,L.map enc⟩)
    (k : ∀ o' tp c',c ≤ c' → Ob o' → K (.ref 0 tp w L.length) (H.set i o' ++ [⟨false,tp,w,L.map enc⟩]) c') : CallW P f (.ptr i tr wr 0 0 :: args) H c K :=
  call_grow hi hf (.cons .namep (Views.refl [] args)) fun r O c' hc ⟨o',tp,hr,hO,ho⟩ => by
    subst hr hO
    exact ⟨o',[_],_,rfl,(hOb o' ho).1,.refl _,.ref,(hOb o' ho).2,fun x hx => by rw [List.mem_singleton.1 hx]; exact hL tp,k o' tp c' hc ho⟩
theorem av_paramL (L : List TParam) (tp : Nat) : AvRows [] ⟨false,tp,2,L.map TParam.enc⟩ := by
  intro r j x a hx ha
  obtain ⟨b,_,rfl⟩ : ∃ b,b ∈ L ∧ TParam.enc b = x := by simpa using List.mem_of_getElem? hx
  have := List.mem_of_getElem? ha
  simp [TParam.enc] at this
  rcases this with rfl | rfl
  · exact .str
  · exact .bool
theorem cell_rfG {α : Type} (w : Nat) (s : SL α) : (s.ref w).cell = true := by cases s <;> rfl
theorem fin_fn {Ob : AObj → Prop} {c' p tp tu : Nat} {o1 x y : AObj} {nm : List UInt8} {g : Bool} {X Y : AV} {Lp Lu : List TParam} {Ls : List (List UInt8)} {Lc : List TIns} {M C : List AObj} (hX : SlotsAt X Ls M) (hY : CodeAt p Y Lc C) (ho : Ob o1) :
    finW (fun r O _ => ∃ o' f,r = .agg (TFunc.encO f) ∧ O = o' :: f.inn ∧ Ob o' ∧ f.con = (⟨nm,.mk 0 Lp,.mk 0 Lu,.mk 0 Ls,g,.mk 0 Lc⟩ : TFunc)) (.agg [.str nm,.ref 0 tp 2 Lp.length,.ref 0 tu 2 Lu.length,X,.bool g,Y]) (o1 :: x :: y :: ⟨false,tp,2,Lp.map TParam.enc⟩ :: ⟨false,tu,2,Lu.map TParam.enc⟩ :: (M ++ C)) c' := by
  have iP : Lp.map TParam.con = Lp := by rw [show TParam.con = id from rfl,List.map_id]
  have iU : Lu.map TParam.con = Lu := by rw [show TParam.con = id from rfl,List.map_id]
  have iC : Lc.map TIns.con = Lc := by rw [show TIns.con = id from rfl,List.map_id]
  have go : ∀ (S : SL (List UInt8)) (D : SL TIns),S.list = Ls → D.list = Lc → (S.wood 1 encS noInn).Sublist M → (D.wood 5 TIns.enc noInn).Sublist C → View [] X (S.ref 1) → View [] Y (D.ref 5) → finW (fun r O _ => ∃ o' f,r = .agg (TFunc.encO f) ∧ O = o' :: f.inn ∧ Ob o' ∧ f.con = (⟨nm,.mk 0 Lp,.mk 0 Lu,.mk 0 Ls,g,.mk 0 Lc⟩ : TFunc)) (.agg [.str nm,.ref 0 tp 2 Lp.length,.ref 0 tu 2 Lu.length,X,.bool g,Y]) (o1 :: x :: y :: ⟨false,tp,2,Lp.map TParam.enc⟩ :: ⟨false,tu,2,Lu.map TParam.enc⟩ :: (M ++ C)) c' := fun S D hS hD sM sC vX vY => by
    refine ⟨[],o1 :: TFunc.inn ⟨nm,.mk tp Lp,.mk tu Lu,S,g,D⟩,o1 :: TFunc.inn ⟨nm,.mk tp Lp,.mk tu Lu,S,g,D⟩,.agg (TFunc.encO ⟨nm,.mk tp Lp,.mk tu Lu,S,g,D⟩),?_,.refl _ _,by simp,by simp [tags],?_,o1,⟨nm,.mk tp Lp,.mk tu Lu,S,g,D⟩,rfl,rfl,ho,?_⟩
    · have e : TFunc.inn ⟨nm,.mk tp Lp,.mk tu Lu,S,g,D⟩ = ⟨false,tp,2,Lp.map TParam.enc⟩ :: ⟨false,tu,2,Lu.map TParam.enc⟩ :: (S.wood 1 encS noInn ++ D.wood 5 TIns.enc noInn) := by simp [TFunc.inn,SL.wood,wood_flat]
      rw [e]
      exact .cons_cons _ (.cons _ (.cons _ (.cons_cons _ (.cons_cons _ (sM.append sC)))))
    · refine viewG (.cons (.refl _) (.cons (.refl _) (.cons (.refl _) (.cons vX (.cons (.refl _) (.cons vY .nil)))))) fun a ha => ?_
      simp [TFunc.encO] at ha
      rcases ha with rfl | rfl | rfl | rfl | rfl | rfl <;> first | rfl | exact cell_rfG _ _
    · simp [TFunc.con,SL.con,SL.pcon,iP,iU,iC,hS,hD]
  rcases hX with ⟨rfl,rfl,rfl⟩ | ⟨x1,ts,rfl,rfl⟩ <;> rcases hY with ⟨rfl,rfl,rfl⟩ | ⟨y1,y2,tc,rfl,rfl⟩
  · exact go .nil .nil rfl rfl (.refl _) (.refl _) (.refl _) (.refl _)
  · exact go .nil (.mk tc Lc) rfl rfl (.refl _) (by simp [SL.wood,wood_flat]) (.refl _) .name
  · exact go (.mk ts Ls) .nil rfl rfl (by simp [SL.wood,wood_flat]) (.refl _) .name (.refl _)
  · exact go (.mk ts Ls) (.mk tc Lc) rfl rfl (by simp [SL.wood,wood_flat]) (by simp [SL.wood,wood_flat]) .name .name
set_option maxHeartbeats 4000000 in
theorem ir_func {s : SL UInt8} {t : Nat} {σ : RSt} {o : AObj} (hl : s.list.length ≤ 1048576) (ho : ObI s t σ o) (c : Nat) : Con Tryz.prog 80 [.ptr 0 t 3 0 0] [o] c fun r O _ => ∃ o' f,r = .agg (TFunc.encO f) ∧ O = o' :: f.inn ∧ ObI s t (rFunc s.list σ).2 o' ∧ f.con = (rFunc s.list σ).1 := by
  refine con_of c80 (by simp [F80]) ?_
  unfold F80
  unfold rFunc
  simp only
  rw [irW_assoc,irW_assoc,irW_assoc,irW_assoc]
  refine seq_cut (fun e H c' => ∃ (o5 : AObj) (X : AV) (M : List AObj) (tf tp tu : Nat),ObI s t (rList s.list (rText s.list) (rList s.list (rParam s.list) (rList s.list (rParam s.list) (rText s.list σ).2).2).2).2 o5 ∧ SlotsAt X (rList s.list (rText s.list) (rList s.list (rParam s.list) (rList s.list (rParam s.list) (rText s.list σ).2).2).2).1 M ∧ e 0 = .ptr 0 t 3 0 0 ∧ e 2 = .ptr 1 c 6 0 0 ∧ e 3 = .ptr 2 tf 6 0 0 ∧
    H = o5 :: retF c :: fnO tf (rText s.list σ).1 (.ref 0 tp 2 (rList s.list (rParam s.list) (rText s.list σ).2).1.length) (.ref 0 tu 2 (rList s.list (rParam s.list) (rList s.list (rParam s.list) (rText s.list σ).2).2).1.length) X false .nsl :: ⟨false,tp,2,(rList s.list (rParam s.list) (rText s.list σ).2).1.map TParam.enc⟩ :: ⟨false,tu,2,(rList s.list (rParam s.list) (rList s.list (rParam s.list) (rText s.list σ).2).2).1.map TParam.enc⟩ :: M) ?_ ?_
  rotate_left
  · intro K hK
    simp
    refine call_ir rfl ho .str (ir_text hl ho _) fun o1 c1 hc1 ho1 => ?_
    simp [putA]
    refine call_ls (i := 0) rfl (ir_params hl ho1 _) (fun o' h => ⟨by rw [h.tg,ho1.tg],h.av⟩) (av_paramL _) fun o2 tp c2 hc2 ho2 => ?_
    simp [putA]
    refine call_ls (i := 0) rfl (ir_params hl ho2 _) (fun o' h => ⟨by rw [h.tg,ho2.tg],h.av⟩) (av_paramL _) fun o3 tu c3 hc3 ho3 => ?_
    simp [putA]
    generalize (rText s.list σ).1 = nm at *
    generalize (rList s.list (rParam s.list) (rList s.list (rParam s.list) (rText s.list σ).2).2).1 = Lu at *
    generalize (rList s.list (rParam s.list) (rList s.list (rParam s.list) (rText s.list σ).2).2).2 = σ3 at *
    generalize (rList s.list (rParam s.list) (rText s.list σ).2).1 = Lp at *
    refine call_ir rfl ho3 .int (ir_num hl ho3 _) fun o4 c4 _ ho4 => ?_
    have hR : rList s.list (rText s.list) σ3 = rRep (rText s.list) (rNum s.list σ3).1 (rNum s.list σ3).2 := rfl
    have hnb : (rNum s.list σ3).1 ≤ 1000000000000 := rNum_le s.list σ3
    generalize (rNum s.list σ3).1 = n0 at hR hnb
    generalize (rNum s.list σ3).2 = σ0 at hR ho4
    simp
    refine loop_drop n0 (fun k e H c' => ∃ (L : List (List UInt8)) (m : Nat) (σ1 : RSt) (o1 : AObj) (X : AV) (M : List AObj),m = n0 - k ∧ ObI s t σ1 o1 ∧ RepAt (rText s.list) (rList s.list (rText s.list) σ3) L m σ1 ∧ SlotsAt X L M ∧ e 0 = .ptr 0 t 3 0 0 ∧ e 2 = .ptr 1 c 6 0 0 ∧ e 3 = .ptr 2 c1 6 0 0 ∧ e 4 = .int .i64 m ∧ H = o1 :: retF c :: fnO c1 nm (.ref 0 tp 2 Lp.length) (.ref 0 tu 2 Lu.length) X false .nsl :: ⟨false,tp,2,Lp.map TParam.enc⟩ :: ⟨false,tu,2,Lu.map TParam.enc⟩ :: M) ⟨[],n0,σ0,o4,.nsl,[],by omega,ho4,by rw [hR]; exact RepAt.nil,.inl ⟨rfl,rfl,rfl⟩,by simp [upd],by simp [upd],by simp [upd],by simp [upd],rfl⟩ ?_
    intro k e H c' hk ⟨L,m,σ1,o1,X,M,hm,ho1,hL,hX,e0,e2,e3,e4,hH⟩ N hN
    subst hH
    by_cases hm0 : m = 0
    · subst hm0
      have hz := hL.zero
      simp [e0,e3,e4]
      refine hK _ _ _ ⟨o1,X,M,c1,tp,tu,by rw [hz]; exact ho1,by rw [hz]; exact hX,by simp [upd,e0],by simp [upd,e2],by simp [upd,e3],rfl⟩
    have hmp : (0 : Int) < (m : Int) := by omega
    have hmp' : 0 < m := by omega
    have ho1' := ho1
    obtain ⟨a,b,rfl,ha,hσ⟩ := ho1'
    rcases hσ with ⟨rfl,rfl⟩ | ⟨rfl,rfl⟩
    rotate_left
    · have hz := hL.none
      simp [e0,e3,e4,hmp,hmp',irO]
      exact hK _ _ _ ⟨irO s t a true,X,M,c1,tp,tu,by rw [hz]; exact ho1,by rw [hz]; exact hX,by simp [upd,e0],by simp [upd,e2],by simp [upd,e3],rfl⟩
    have hLa := hL.2 a rfl
    have hst := hL.step (cons_text s.list) (n := m - 1) (by omega)
    have hw : IntKind.i64.wrap ((m : Int) - 1) = ((m - 1 : Nat) : Int) := by rw [wrap64 (by omega) (by omega)]; omega
    have hg1 : (L.length + 1) * 16 ≤ 140737488355328 := by omega
    have hg2 : L.length + 1 ≤ mx := by unfold mx; omega
    rcases hX with ⟨rfl,rfl,rfl⟩ | ⟨x1,ts,rfl,rfl⟩
    · simp [e0,e3,e4,hmp,hmp',irO,retF,fnO]
      refine call_ir (o := irO s t a false) rfl ho1 .str (ir_text hl ho1 _) fun o2 c2 _ ho2 => ?_
      simp [e0,e3,e4,hw,hg1,hg2,putA]
      exact ⟨by unfold mx; omega,hN _ _ _ _ (by omega) (List.Sublist.refl _) ⟨[(rText s.list (some a)).1],m - 1,(rText s.list (some a)).2,o2,.ref 6 (c2 + 1) 1 1,[_,_],by omega,ho2,hst,.inr ⟨_,c2 + 1,rfl,rfl⟩,by simp [upd,e0],by simp [upd,e2],by simp [upd,e3],by simp [upd],rfl⟩⟩
    · simp [e0,e3,e4,hmp,hmp',irO,retF,fnO]
      refine call_ir (o := irO s t a false) rfl ho1 .str (ir_text hl ho1 _) fun o2 c2 _ ho2 => ?_
      simp [e0,e3,e4,hw,hg1,hg2,putA]
      exact hN _ _ (o2 :: retF c :: fnO c1 nm (.ref 0 tp 2 Lp.length) (.ref 0 tu 2 Lu.length) (.ref 6 (c2 + 1) 1 (L.length + 1)) false .nsl :: ⟨false,tp,2,Lp.map TParam.enc⟩ :: ⟨false,tu,2,Lu.map TParam.enc⟩ :: [x1,⟨false,c2 + 1,1,(L ++ [(rText s.list (some a)).1]).map encS⟩]) _ (by omega) (by simp [encS,retF,fnO]) ⟨L ++ [(rText s.list (some a)).1],m - 1,(rText s.list (some a)).2,o2,.ref 6 (c2 + 1) 1 (L.length + 1),[_,_],by omega,ho2,hst,.inr ⟨_,c2 + 1,by simp,rfl⟩,by simp [upd,e0],by simp [upd,e2],by simp [upd,e3],by simp [upd],rfl⟩
  · intro e H c' ⟨o5,X,M,tf,tp,tu,ho5,hX,e0,e2,e3,hH⟩
    subst hH
    generalize (rText s.list σ).1 = nm at *
    generalize (rList s.list (rText s.list) (rList s.list (rParam s.list) (rList s.list (rParam s.list) (rText s.list σ).2).2).2).2 = σ5 at *
    generalize (rList s.list (rText s.list) (rList s.list (rParam s.list) (rList s.list (rParam s.list) (rText s.list σ).2).2).2).1 = Ls at *
    generalize (rList s.list (rParam s.list) (rList s.list (rParam s.list) (rText s.list σ).2).2).1 = Lu at *
    generalize (rList s.list (rParam s.list) (rText s.list σ).2).1 = Lp at *
    have fin : ∀ {o1 x y : AObj} {g : Bool} {p : Nat} {Y : AV} {Lc : List TIns} {C : List AObj} {σ1 : RSt} {c' : Nat},ObI s t σ1 o1 → CodeAt p Y Lc C → finW (fun r O _ => ∃ o' f,r = .agg (TFunc.encO f) ∧ O = o' :: f.inn ∧ ObI s t σ1 o' ∧ f.con = (⟨nm,.mk 0 Lp,.mk 0 Lu,.mk 0 Ls,g,.mk 0 Lc⟩ : TFunc)) (.agg [.str nm,.ref 0 tp 2 Lp.length,.ref 0 tu 2 Lu.length,X,.bool g,Y]) (o1 :: x :: y :: ⟨false,tp,2,Lp.map TParam.enc⟩ :: ⟨false,tu,2,Lu.map TParam.enc⟩ :: (M ++ C)) c' := fun ho1 hY => fin_fn hX hY ho1
    rcases hX with ⟨rfl,rfl,rfl⟩ | ⟨x1,ts,rfl,rfl⟩
    · simp [e0,e2,e3,retF,fnO]
      refine call_ir (i := 0) rfl ho5 .bool (ir_flag hl ho5 _) fun o6 c6 _ ho6 => ?_
      simp [e0,e2,e3,putA]
      generalize (rFlag s.list σ5).1 = gn at *
      generalize (rFlag s.list σ5).2 = σ6 at *
      refine call_ir (i := 0) rfl ho6 .int (ir_num hl ho6 _) fun o7 c7 _ ho7 => ?_
      have hR : rList s.list (rIns s.list) σ6 = rRep (rIns s.list) (rNum s.list σ6).1 (rNum s.list σ6).2 := rfl
      have hnb : (rNum s.list σ6).1 ≤ 1000000000000 := rNum_le s.list σ6
      generalize (rNum s.list σ6).1 = n0 at hR hnb
      generalize (rNum s.list σ6).2 = σ0 at hR ho7
      simp [e0,e2,e3]
      refine loop_drop n0 (fun k e H c' => ∃ (L : List TIns) (m : Nat) (σ1 : RSt) (o1 : AObj) (Y : AV) (C : List AObj),m = n0 - k ∧ ObI s t σ1 o1 ∧ RepAt (rIns s.list) (rList s.list (rIns s.list) σ6) L m σ1 ∧ CodeAt 5 Y L C ∧ e 0 = .ptr 0 t 3 0 0 ∧ e 2 = .ptr 1 c 6 0 0 ∧ e 3 = .ptr 2 tf 6 0 0 ∧ e 5 = .int .i64 m ∧ H = o1 :: retF c :: fnO tf nm (.ref 0 tp 2 Lp.length) (.ref 0 tu 2 Lu.length) .nsl gn Y :: ⟨false,tp,2,Lp.map TParam.enc⟩ :: ⟨false,tu,2,Lu.map TParam.enc⟩ :: ([] ++ C)) ⟨[],n0,σ0,o7,.nsl,[],by omega,ho7,by rw [hR]; exact RepAt.nil,.inl ⟨rfl,rfl,rfl⟩,by simp [upd,e0],by simp [upd,e2],by simp [upd,e3],by simp [upd],rfl⟩ ?_
      clear e0 e2 e3 e
      intro k e H c' hk ⟨L,m,σ1,o1,Y,C,hm,ho1,hL,hY,e0,e2,e3,e5,hH⟩ N hN
      subst hH
      by_cases hm0 : m = 0
      · subst hm0
        have hz := hL.zero
        rw [hz]
        simp [e0,e2,e3,e5,retF,fnO,putA]
        exact fin (p := 5) ho1 hY
      have hmp : (0 : Int) < (m : Int) := by omega
      have hmp' : 0 < m := by omega
      have ho1' := ho1
      obtain ⟨a,b,rfl,ha,hσ⟩ := ho1'
      rcases hσ with ⟨rfl,rfl⟩ | ⟨rfl,rfl⟩
      rotate_left
      · have hz := hL.none
        rw [hz]
        simp [e0,e2,e3,e5,hmp,hmp',irO,retF,fnO,putA]
        exact fin (p := 5) ho1 hY
      have hLa := hL.2 a rfl
      have hst := hL.step (cons_ins s.list) (n := m - 1) (by omega)
      have hw : IntKind.i64.wrap ((m : Int) - 1) = ((m - 1 : Nat) : Int) := by rw [wrap64 (by omega) (by omega)]; omega
      have hg1 : (L.length + 1) * 56 ≤ 140737488355328 := by omega
      have hg2 : L.length + 1 ≤ mx := by unfold mx; omega
      have hro : (irO s t a false : AObj) = irO s t a false := rfl
      rcases hY with ⟨rfl,rfl,rfl⟩ | ⟨y1,y2,tc,rfl,rfl⟩
      · simp [e0,e2,e3,e5,hmp,hmp',irO,retF,fnO]
        have hi0 : ∀ T : List AObj,(irO s t a false :: T)[0]? = some (irO s t a false) := fun _ => rfl
        refine call_ir (i := 0) rfl ho1 .int (ir_num hl ho1 _) fun o2 c2 _ ho2 => ?_
        simp [e0,e2,e3,e5,putA]
        refine call_ir (i := 0) rfl ho2 .int (ir_num hl ho2 _) fun o3 c3 _ ho3 => ?_
        simp [e0,e2,e3,e5,putA]
        refine call_ir (i := 0) rfl ho3 .int (ir_num hl ho3 _) fun o4 c4 _ ho4 => ?_
        simp [e0,e2,e3,e5,putA]
        refine call_ir (i := 0) rfl ho4 .str (ir_text hl ho4 _) fun o5 c5 _ ho5 => ?_
        simp [e0,e2,e3,e5,putA]
        refine call_ir (i := 0) rfl ho5 .str (ir_text hl ho5 _) fun o6 c6 _ ho6 => ?_
        simp [e0,e2,e3,e5,hw,hg1,hg2,putA]
        exact ⟨by unfold mx; omega,hN _ _ _ _ (by omega) (List.Sublist.refl _) ⟨[(rIns s.list (some a)).1],m - 1,(rIns s.list (some a)).2,o6,.ref 7 (c6 + 1) 5 1,[_,_,_],by omega,ho6,hst,.inr ⟨_,_,c6 + 1,rfl,rfl⟩,by simp [upd,e0],by simp [upd,e2],by simp [upd,e3],by simp [upd],rfl⟩⟩
      · simp [e0,e2,e3,e5,hmp,hmp',irO,retF,fnO]
        refine call_ir (i := 0) rfl ho1 .int (ir_num hl ho1 _) fun o2 c2 _ ho2 => ?_
        simp [e0,e2,e3,e5,putA]
        refine call_ir (i := 0) rfl ho2 .int (ir_num hl ho2 _) fun o3 c3 _ ho3 => ?_
        simp [e0,e2,e3,e5,putA]
        refine call_ir (i := 0) rfl ho3 .int (ir_num hl ho3 _) fun o4 c4 _ ho4 => ?_
        simp [e0,e2,e3,e5,putA]
        refine call_ir (i := 0) rfl ho4 .str (ir_text hl ho4 _) fun o5 c5 _ ho5 => ?_
        simp [e0,e2,e3,e5,putA]
        refine call_ir (i := 0) rfl ho5 .str (ir_text hl ho5 _) fun o6 c6 _ ho6 => ?_
        simp [e0,e2,e3,e5,hw,hg1,hg2,putA]
        exact hN _ _ (o6 :: retF c :: fnO tf nm (.ref 0 tp 2 Lp.length) (.ref 0 tu 2 Lu.length) .nsl gn (.ref 7 (c6 + 1) 5 (L.length + 1)) :: ⟨false,tp,2,Lp.map TParam.enc⟩ :: ⟨false,tu,2,Lu.map TParam.enc⟩ :: ([] ++ [y1,y2,⟨false,c6 + 1,5,(L ++ [(rIns s.list (some a)).1]).map TIns.enc⟩])) _ (by omega) (by simp [TIns.enc,rIns,retF,fnO]) ⟨L ++ [(rIns s.list (some a)).1],m - 1,(rIns s.list (some a)).2,o6,.ref 7 (c6 + 1) 5 (L.length + 1),[_,_,_],by omega,ho6,hst,.inr ⟨_,_,c6 + 1,by simp,rfl⟩,by simp [upd,e0],by simp [upd,e2],by simp [upd,e3],by simp [upd],rfl⟩
    · simp [e0,e2,e3,retF,fnO]
      refine call_ir (i := 0) rfl ho5 .bool (ir_flag hl ho5 _) fun o6 c6 _ ho6 => ?_
      simp [e0,e2,e3,putA]
      generalize (rFlag s.list σ5).1 = gn at *
      generalize (rFlag s.list σ5).2 = σ6 at *
      refine call_ir (i := 0) rfl ho6 .int (ir_num hl ho6 _) fun o7 c7 _ ho7 => ?_
      have hR : rList s.list (rIns s.list) σ6 = rRep (rIns s.list) (rNum s.list σ6).1 (rNum s.list σ6).2 := rfl
      have hnb : (rNum s.list σ6).1 ≤ 1000000000000 := rNum_le s.list σ6
      generalize (rNum s.list σ6).1 = n0 at hR hnb
      generalize (rNum s.list σ6).2 = σ0 at hR ho7
      simp [e0,e2,e3]
      refine loop_drop n0 (fun k e H c' => ∃ (L : List TIns) (m : Nat) (σ1 : RSt) (o1 : AObj) (Y : AV) (C : List AObj),m = n0 - k ∧ ObI s t σ1 o1 ∧ RepAt (rIns s.list) (rList s.list (rIns s.list) σ6) L m σ1 ∧ CodeAt 7 Y L C ∧ e 0 = .ptr 0 t 3 0 0 ∧ e 2 = .ptr 1 c 6 0 0 ∧ e 3 = .ptr 2 tf 6 0 0 ∧ e 5 = .int .i64 m ∧ H = o1 :: retF c :: fnO tf nm (.ref 0 tp 2 Lp.length) (.ref 0 tu 2 Lu.length) (.ref 6 ts 1 Ls.length) gn Y :: ⟨false,tp,2,Lp.map TParam.enc⟩ :: ⟨false,tu,2,Lu.map TParam.enc⟩ :: ([x1,⟨false,ts,1,Ls.map encS⟩] ++ C)) ⟨[],n0,σ0,o7,.nsl,[],by omega,ho7,by rw [hR]; exact RepAt.nil,.inl ⟨rfl,rfl,rfl⟩,by simp [upd,e0],by simp [upd,e2],by simp [upd,e3],by simp [upd],rfl⟩ ?_
      clear e0 e2 e3 e
      intro k e H c' hk ⟨L,m,σ1,o1,Y,C,hm,ho1,hL,hY,e0,e2,e3,e5,hH⟩ N hN
      subst hH
      by_cases hm0 : m = 0
      · subst hm0
        have hz := hL.zero
        rw [hz]
        simp [e0,e2,e3,e5,retF,fnO,putA]
        exact fin (p := 7) ho1 hY
      have hmp : (0 : Int) < (m : Int) := by omega
      have hmp' : 0 < m := by omega
      have ho1' := ho1
      obtain ⟨a,b,rfl,ha,hσ⟩ := ho1'
      rcases hσ with ⟨rfl,rfl⟩ | ⟨rfl,rfl⟩
      rotate_left
      · have hz := hL.none
        rw [hz]
        simp [e0,e2,e3,e5,hmp,hmp',irO,retF,fnO,putA]
        exact fin (p := 7) ho1 hY
      have hLa := hL.2 a rfl
      have hst := hL.step (cons_ins s.list) (n := m - 1) (by omega)
      have hw : IntKind.i64.wrap ((m : Int) - 1) = ((m - 1 : Nat) : Int) := by rw [wrap64 (by omega) (by omega)]; omega
      have hg1 : (L.length + 1) * 56 ≤ 140737488355328 := by omega
      have hg2 : L.length + 1 ≤ mx := by unfold mx; omega
      have hro : (irO s t a false : AObj) = irO s t a false := rfl
      rcases hY with ⟨rfl,rfl,rfl⟩ | ⟨y1,y2,tc,rfl,rfl⟩
      · simp [e0,e2,e3,e5,hmp,hmp',irO,retF,fnO]
        have hi0 : ∀ T : List AObj,(irO s t a false :: T)[0]? = some (irO s t a false) := fun _ => rfl
        refine call_ir (i := 0) rfl ho1 .int (ir_num hl ho1 _) fun o2 c2 _ ho2 => ?_
        simp [e0,e2,e3,e5,putA]
        refine call_ir (i := 0) rfl ho2 .int (ir_num hl ho2 _) fun o3 c3 _ ho3 => ?_
        simp [e0,e2,e3,e5,putA]
        refine call_ir (i := 0) rfl ho3 .int (ir_num hl ho3 _) fun o4 c4 _ ho4 => ?_
        simp [e0,e2,e3,e5,putA]
        refine call_ir (i := 0) rfl ho4 .str (ir_text hl ho4 _) fun o5 c5 _ ho5 => ?_
        simp [e0,e2,e3,e5,putA]
        refine call_ir (i := 0) rfl ho5 .str (ir_text hl ho5 _) fun o6 c6 _ ho6 => ?_
        simp [e0,e2,e3,e5,hw,hg1,hg2,putA]
        exact ⟨by unfold mx; omega,hN _ _ _ _ (by omega) (List.Sublist.refl _) ⟨[(rIns s.list (some a)).1],m - 1,(rIns s.list (some a)).2,o6,.ref 9 (c6 + 1) 5 1,[_,_,_],by omega,ho6,hst,.inr ⟨_,_,c6 + 1,rfl,rfl⟩,by simp [upd,e0],by simp [upd,e2],by simp [upd,e3],by simp [upd],rfl⟩⟩
      · simp [e0,e2,e3,e5,hmp,hmp',irO,retF,fnO]
        refine call_ir (i := 0) rfl ho1 .int (ir_num hl ho1 _) fun o2 c2 _ ho2 => ?_
        simp [e0,e2,e3,e5,putA]
        refine call_ir (i := 0) rfl ho2 .int (ir_num hl ho2 _) fun o3 c3 _ ho3 => ?_
        simp [e0,e2,e3,e5,putA]
        refine call_ir (i := 0) rfl ho3 .int (ir_num hl ho3 _) fun o4 c4 _ ho4 => ?_
        simp [e0,e2,e3,e5,putA]
        refine call_ir (i := 0) rfl ho4 .str (ir_text hl ho4 _) fun o5 c5 _ ho5 => ?_
        simp [e0,e2,e3,e5,putA]
        refine call_ir (i := 0) rfl ho5 .str (ir_text hl ho5 _) fun o6 c6 _ ho6 => ?_
        simp [e0,e2,e3,e5,hw,hg1,hg2,putA]
        exact hN _ _ (o6 :: retF c :: fnO tf nm (.ref 0 tp 2 Lp.length) (.ref 0 tu 2 Lu.length) (.ref 6 ts 1 Ls.length) gn (.ref 9 (c6 + 1) 5 (L.length + 1)) :: ⟨false,tp,2,Lp.map TParam.enc⟩ :: ⟨false,tu,2,Lu.map TParam.enc⟩ :: ([x1,⟨false,ts,1,Ls.map encS⟩] ++ [y1,y2,⟨false,c6 + 1,5,(L ++ [(rIns s.list (some a)).1]).map TIns.enc⟩])) _ (by omega) (by simp [TIns.enc,rIns,retF,fnO]) ⟨L ++ [(rIns s.list (some a)).1],m - 1,(rIns s.list (some a)).2,o6,.ref 9 (c6 + 1) 5 (L.length + 1),[_,_,_],by omega,ho6,hst,.inr ⟨_,_,c6 + 1,by simp,rfl⟩,by simp [upd,e0],by simp [upd,e2],by simp [upd,e3],by simp [upd],rfl⟩
set_option maxRecDepth 100000
def osO (s : SL UInt8) (t a : Nat) (b : Bool) : AObj := ⟨false,t,2,[[s.av 1 byteRow,.int .i64 (if b then -1 else (a : Int))]]⟩
def ObS (s : SL UInt8) (t : Nat) (σ : RSt) (o : AObj) : Prop := ∃ a b,o = osO s t a b ∧ a ≤ s.list.length ∧ ((σ = some a ∧ b = false) ∨ (σ = none ∧ b = true))
theorem ObS.eq {s : SL UInt8} {t : Nat} {σ : RSt} {o : AObj} (h : ObS s t σ o) : o = orO s t σ ∧ StIn s σ := by
  obtain ⟨a,b,rfl,ha,⟨rfl,rfl⟩ | ⟨rfl,rfl⟩⟩ := h
  · exact ⟨rfl,fun x hx => by cases hx; exact ha⟩
  · exact ⟨rfl,fun x hx => by cases hx⟩
theorem ObS.of {s : SL UInt8} {t : Nat} {σ : RSt} (h : StIn s σ) : ObS s t σ (orO s t σ) := by
  cases σ with
  | none => exact ⟨0,true,rfl,Nat.zero_le _,.inr ⟨rfl,rfl⟩⟩
  | some a => exact ⟨a,false,rfl,h a rfl,.inl ⟨rfl,rfl⟩⟩
theorem ObS.av {s : SL UInt8} {t : Nat} {σ : RSt} {o : AObj} (h : ObS s t σ o) : AvRows [] o := by
  rw [h.eq.1]
  exact av_orO _ _ _
theorem ObS.tg {s : SL UInt8} {t : Nat} {σ : RSt} {o : AObj} (h : ObS s t σ o) : o.tag = t := by
  rw [h.eq.1]
  rfl
def OsQ (s : SL UInt8) (t : Nat) (σ : RSt) (v : AV) (r : AV) (O : List AObj) : Prop := ∃ o,O = [o] ∧ ObS s t σ o ∧ r = v
theorem call_os {P : Program} {K : AV → List AObj → Nat → Prop} {f i c t : Nat} {s : SL UInt8} {σ σ' : RSt} {args : List AV} {H : List AObj} {o : AObj} {v : AV} (hi : H[i]? = some o) (ho : ObS s t σ o) (hv : Av [] v) (hf : Con P f (.ptr 0 t 2 0 0 :: args) [o] c fun r O _ => OsQ s t σ' v r O)
    (k : ∀ o' c',c ≤ c' → ObS s t σ' o' → K v (H.set i o') c') : CallW P f (.ptr i t 2 0 0 :: args) H c K :=
  call_at hi hf (.cons .namep (Views.refl [] args)) fun r O c' hc ⟨o',hO,h1,hr⟩ => ⟨o',hO,by rw [h1.tg,ho.tg],by rw [hr]; exact hv,h1.av,by rw [hr]; exact k o' c' hc h1⟩
theorem os_num {s : SL UInt8} {t : Nat} {σ : RSt} {o : AObj} (hl : s.list.length ≤ 1048576) (ho : ObS s t σ o) (c : Nat) : Con Tryz.prog 76 [.ptr 0 t 2 0 0] [o] c fun r O _ => OsQ s t (rNum s.list σ).2 (.int .i64 (rNum s.list σ).1) r O := by
  obtain ⟨rfl,hin⟩ := ho.eq
  exact (or_num hl hin c).mono fun r H' c' _ ⟨h1,h2⟩ => ⟨_,h1,.of rNum_in,h2⟩
theorem os_text {s : SL UInt8} {t : Nat} {σ : RSt} {o : AObj} (hl : s.list.length ≤ 1048576) (ho : ObS s t σ o) (c : Nat) : Con Tryz.prog 121 [.ptr 0 t 2 0 0] [o] c fun r O _ => OsQ s t (rText s.list σ).2 (.str (rText s.list σ).1) r O := by
  obtain ⟨rfl,hin⟩ := ho.eq
  exact (or_text hl hin c).mono fun r H' c' _ ⟨h1,h2⟩ => ⟨_,h1,.of rText_in,h2⟩
theorem os_flag {s : SL UInt8} {t : Nat} {σ : RSt} {o : AObj} (hl : s.list.length ≤ 1048576) (ho : ObS s t σ o) (c : Nat) : Con Tryz.prog 123 [.ptr 0 t 2 0 0] [o] c fun r O _ => OsQ s t (rFlag s.list σ).2 (.bool (rFlag s.list σ).1) r O := by
  obtain ⟨rfl,hin⟩ := ho.eq
  exact (or_flag hl hin c).mono fun r H' c' _ ⟨h1,h2⟩ => ⟨_,h1,.of rFlag_in,h2⟩
theorem rList_in {α : Type} {s : SL UInt8} {f : RSt → α × RSt} {g : α → Nat} (h : Cons s.list f g) {σ : RSt} : StIn s (rList s.list f σ).2 := fun a ha => by
  obtain ⟨_,_,_,h⟩ := cons_of_some (cons_list h) ha
  exact h
theorem os_params {s : SL UInt8} {t : Nat} {σ : RSt} {o : AObj} (hl : s.list.length ≤ 1048576) (ho : ObS s t σ o) (c : Nat) : Con Tryz.prog 122 [.ptr 0 t 2 0 0] [o] c fun r O _ => LsQ (ObS s t (rList s.list (rParam s.list) σ).2) 2 TParam.enc (rList s.list (rParam s.list) σ).1 r O := by
  obtain ⟨rfl,hin⟩ := ho.eq
  exact (or_params hl hin c).mono fun r H' c' _ ⟨o',tp,h1,h2,h3⟩ => ⟨o',tp,h1,h2,by rw [h3]; exact .of (rList_in (cons_param _))⟩
set_option maxHeartbeats 4000000 in
theorem os_func {s : SL UInt8} {t : Nat} {σ : RSt} {o : AObj} (hl : s.list.length ≤ 1048576) (ho : ObS s t σ o) (c : Nat) : Con Tryz.prog 77 [.ptr 0 t 2 0 0] [o] c fun r O _ => ∃ o' f,r = .agg (TFunc.encO f) ∧ O = o' :: f.inn ∧ ObS s t (rFunc s.list σ).2 o' ∧ f.con = (rFunc s.list σ).1 := by
  refine con_of c77 (by simp [F77]) ?_
  unfold F77
  unfold rFunc
  simp only
  rw [irW_assoc,irW_assoc,irW_assoc,irW_assoc]
  refine seq_cut (fun e H c' => ∃ (o5 : AObj) (X : AV) (M : List AObj) (tf tp tu : Nat),ObS s t (rList s.list (rText s.list) (rList s.list (rParam s.list) (rList s.list (rParam s.list) (rText s.list σ).2).2).2).2 o5 ∧ SlotsAt X (rList s.list (rText s.list) (rList s.list (rParam s.list) (rList s.list (rParam s.list) (rText s.list σ).2).2).2).1 M ∧ e 0 = .ptr 0 t 2 0 0 ∧ e 2 = .ptr 1 c 6 0 0 ∧ e 3 = .ptr 2 tf 6 0 0 ∧
    H = o5 :: retF c :: fnO tf (rText s.list σ).1 (.ref 0 tp 2 (rList s.list (rParam s.list) (rText s.list σ).2).1.length) (.ref 0 tu 2 (rList s.list (rParam s.list) (rList s.list (rParam s.list) (rText s.list σ).2).2).1.length) X false .nsl :: ⟨false,tp,2,(rList s.list (rParam s.list) (rText s.list σ).2).1.map TParam.enc⟩ :: ⟨false,tu,2,(rList s.list (rParam s.list) (rList s.list (rParam s.list) (rText s.list σ).2).2).1.map TParam.enc⟩ :: M) ?_ ?_
  rotate_left
  · intro K hK
    simp
    refine call_os rfl ho .str (os_text hl ho _) fun o1 c1 hc1 ho1 => ?_
    simp [putA]
    refine call_ls (i := 0) rfl (os_params hl ho1 _) (fun o' h => ⟨by rw [h.tg,ho1.tg],h.av⟩) (av_paramL _) fun o2 tp c2 hc2 ho2 => ?_
    simp [putA]
    refine call_ls (i := 0) rfl (os_params hl ho2 _) (fun o' h => ⟨by rw [h.tg,ho2.tg],h.av⟩) (av_paramL _) fun o3 tu c3 hc3 ho3 => ?_
    simp [putA]
    generalize (rText s.list σ).1 = nm at *
    generalize (rList s.list (rParam s.list) (rList s.list (rParam s.list) (rText s.list σ).2).2).1 = Lu at *
    generalize (rList s.list (rParam s.list) (rList s.list (rParam s.list) (rText s.list σ).2).2).2 = σ3 at *
    generalize (rList s.list (rParam s.list) (rText s.list σ).2).1 = Lp at *
    refine call_os rfl ho3 .int (os_num hl ho3 _) fun o4 c4 _ ho4 => ?_
    have hR : rList s.list (rText s.list) σ3 = rRep (rText s.list) (rNum s.list σ3).1 (rNum s.list σ3).2 := rfl
    have hnb : (rNum s.list σ3).1 ≤ 1000000000000 := rNum_le s.list σ3
    generalize (rNum s.list σ3).1 = n0 at hR hnb
    generalize (rNum s.list σ3).2 = σ0 at hR ho4
    simp
    refine loop_drop n0 (fun k e H c' => ∃ (L : List (List UInt8)) (m : Nat) (σ1 : RSt) (o1 : AObj) (X : AV) (M : List AObj),m = n0 - k ∧ ObS s t σ1 o1 ∧ RepAt (rText s.list) (rList s.list (rText s.list) σ3) L m σ1 ∧ SlotsAt X L M ∧ e 0 = .ptr 0 t 2 0 0 ∧ e 2 = .ptr 1 c 6 0 0 ∧ e 3 = .ptr 2 c1 6 0 0 ∧ e 4 = .int .i64 m ∧ H = o1 :: retF c :: fnO c1 nm (.ref 0 tp 2 Lp.length) (.ref 0 tu 2 Lu.length) X false .nsl :: ⟨false,tp,2,Lp.map TParam.enc⟩ :: ⟨false,tu,2,Lu.map TParam.enc⟩ :: M) ⟨[],n0,σ0,o4,.nsl,[],by omega,ho4,by rw [hR]; exact RepAt.nil,.inl ⟨rfl,rfl,rfl⟩,by simp [upd],by simp [upd],by simp [upd],by simp [upd],rfl⟩ ?_
    intro k e H c' hk ⟨L,m,σ1,o1,X,M,hm,ho1,hL,hX,e0,e2,e3,e4,hH⟩ N hN
    subst hH
    by_cases hm0 : m = 0
    · subst hm0
      have hz := hL.zero
      simp [e0,e3,e4]
      refine hK _ _ _ ⟨o1,X,M,c1,tp,tu,by rw [hz]; exact ho1,by rw [hz]; exact hX,by simp [upd,e0],by simp [upd,e2],by simp [upd,e3],rfl⟩
    have hmp : (0 : Int) < (m : Int) := by omega
    have hmp' : 0 < m := by omega
    have ho1' := ho1
    obtain ⟨a,b,rfl,ha,hσ⟩ := ho1'
    rcases hσ with ⟨rfl,rfl⟩ | ⟨rfl,rfl⟩
    rotate_left
    · have hz := hL.none
      simp [e0,e3,e4,hmp,hmp',osO]
      exact hK _ _ _ ⟨osO s t a true,X,M,c1,tp,tu,by rw [hz]; exact ho1,by rw [hz]; exact hX,by simp [upd,e0],by simp [upd,e2],by simp [upd,e3],rfl⟩
    have hLa := hL.2 a rfl
    have hst := hL.step (cons_text s.list) (n := m - 1) (by omega)
    have hw : IntKind.i64.wrap ((m : Int) - 1) = ((m - 1 : Nat) : Int) := by rw [wrap64 (by omega) (by omega)]; omega
    have hg1 : (L.length + 1) * 16 ≤ 140737488355328 := by omega
    have hg2 : L.length + 1 ≤ mx := by unfold mx; omega
    rcases hX with ⟨rfl,rfl,rfl⟩ | ⟨x1,ts,rfl,rfl⟩
    · simp [e0,e3,e4,hmp,hmp',osO,retF,fnO]
      refine call_os (o := osO s t a false) rfl ho1 .str (os_text hl ho1 _) fun o2 c2 _ ho2 => ?_
      simp [e0,e3,e4,hw,hg1,hg2,putA]
      exact ⟨by unfold mx; omega,hN _ _ _ _ (by omega) (List.Sublist.refl _) ⟨[(rText s.list (some a)).1],m - 1,(rText s.list (some a)).2,o2,.ref 6 (c2 + 1) 1 1,[_,_],by omega,ho2,hst,.inr ⟨_,c2 + 1,rfl,rfl⟩,by simp [upd,e0],by simp [upd,e2],by simp [upd,e3],by simp [upd],rfl⟩⟩
    · simp [e0,e3,e4,hmp,hmp',osO,retF,fnO]
      refine call_os (o := osO s t a false) rfl ho1 .str (os_text hl ho1 _) fun o2 c2 _ ho2 => ?_
      simp [e0,e3,e4,hw,hg1,hg2,putA]
      exact hN _ _ (o2 :: retF c :: fnO c1 nm (.ref 0 tp 2 Lp.length) (.ref 0 tu 2 Lu.length) (.ref 6 (c2 + 1) 1 (L.length + 1)) false .nsl :: ⟨false,tp,2,Lp.map TParam.enc⟩ :: ⟨false,tu,2,Lu.map TParam.enc⟩ :: [x1,⟨false,c2 + 1,1,(L ++ [(rText s.list (some a)).1]).map encS⟩]) _ (by omega) (by simp [encS,retF,fnO]) ⟨L ++ [(rText s.list (some a)).1],m - 1,(rText s.list (some a)).2,o2,.ref 6 (c2 + 1) 1 (L.length + 1),[_,_],by omega,ho2,hst,.inr ⟨_,c2 + 1,by simp,rfl⟩,by simp [upd,e0],by simp [upd,e2],by simp [upd,e3],by simp [upd],rfl⟩
  · intro e H c' ⟨o5,X,M,tf,tp,tu,ho5,hX,e0,e2,e3,hH⟩
    subst hH
    generalize (rText s.list σ).1 = nm at *
    generalize (rList s.list (rText s.list) (rList s.list (rParam s.list) (rList s.list (rParam s.list) (rText s.list σ).2).2).2).2 = σ5 at *
    generalize (rList s.list (rText s.list) (rList s.list (rParam s.list) (rList s.list (rParam s.list) (rText s.list σ).2).2).2).1 = Ls at *
    generalize (rList s.list (rParam s.list) (rList s.list (rParam s.list) (rText s.list σ).2).2).1 = Lu at *
    generalize (rList s.list (rParam s.list) (rText s.list σ).2).1 = Lp at *
    have fin : ∀ {o1 x y : AObj} {g : Bool} {p : Nat} {Y : AV} {Lc : List TIns} {C : List AObj} {σ1 : RSt} {c' : Nat},ObS s t σ1 o1 → CodeAt p Y Lc C → finW (fun r O _ => ∃ o' f,r = .agg (TFunc.encO f) ∧ O = o' :: f.inn ∧ ObS s t σ1 o' ∧ f.con = (⟨nm,.mk 0 Lp,.mk 0 Lu,.mk 0 Ls,g,.mk 0 Lc⟩ : TFunc)) (.agg [.str nm,.ref 0 tp 2 Lp.length,.ref 0 tu 2 Lu.length,X,.bool g,Y]) (o1 :: x :: y :: ⟨false,tp,2,Lp.map TParam.enc⟩ :: ⟨false,tu,2,Lu.map TParam.enc⟩ :: (M ++ C)) c' := fun ho1 hY => fin_fn hX hY ho1
    rcases hX with ⟨rfl,rfl,rfl⟩ | ⟨x1,ts,rfl,rfl⟩
    · simp [e0,e2,e3,retF,fnO]
      refine call_os (i := 0) rfl ho5 .bool (os_flag hl ho5 _) fun o6 c6 _ ho6 => ?_
      simp [e0,e2,e3,putA]
      generalize (rFlag s.list σ5).1 = gn at *
      generalize (rFlag s.list σ5).2 = σ6 at *
      refine call_os (i := 0) rfl ho6 .int (os_num hl ho6 _) fun o7 c7 _ ho7 => ?_
      have hR : rList s.list (rIns s.list) σ6 = rRep (rIns s.list) (rNum s.list σ6).1 (rNum s.list σ6).2 := rfl
      have hnb : (rNum s.list σ6).1 ≤ 1000000000000 := rNum_le s.list σ6
      generalize (rNum s.list σ6).1 = n0 at hR hnb
      generalize (rNum s.list σ6).2 = σ0 at hR ho7
      simp [e0,e2,e3]
      refine loop_drop n0 (fun k e H c' => ∃ (L : List TIns) (m : Nat) (σ1 : RSt) (o1 : AObj) (Y : AV) (C : List AObj),m = n0 - k ∧ ObS s t σ1 o1 ∧ RepAt (rIns s.list) (rList s.list (rIns s.list) σ6) L m σ1 ∧ CodeAt 5 Y L C ∧ e 0 = .ptr 0 t 2 0 0 ∧ e 2 = .ptr 1 c 6 0 0 ∧ e 3 = .ptr 2 tf 6 0 0 ∧ e 5 = .int .i64 m ∧ H = o1 :: retF c :: fnO tf nm (.ref 0 tp 2 Lp.length) (.ref 0 tu 2 Lu.length) .nsl gn Y :: ⟨false,tp,2,Lp.map TParam.enc⟩ :: ⟨false,tu,2,Lu.map TParam.enc⟩ :: ([] ++ C)) ⟨[],n0,σ0,o7,.nsl,[],by omega,ho7,by rw [hR]; exact RepAt.nil,.inl ⟨rfl,rfl,rfl⟩,by simp [upd,e0],by simp [upd,e2],by simp [upd,e3],by simp [upd],rfl⟩ ?_
      clear e0 e2 e3 e
      intro k e H c' hk ⟨L,m,σ1,o1,Y,C,hm,ho1,hL,hY,e0,e2,e3,e5,hH⟩ N hN
      subst hH
      by_cases hm0 : m = 0
      · subst hm0
        have hz := hL.zero
        rw [hz]
        simp [e0,e2,e3,e5,retF,fnO,putA]
        exact fin (p := 5) ho1 hY
      have hmp : (0 : Int) < (m : Int) := by omega
      have hmp' : 0 < m := by omega
      have ho1' := ho1
      obtain ⟨a,b,rfl,ha,hσ⟩ := ho1'
      rcases hσ with ⟨rfl,rfl⟩ | ⟨rfl,rfl⟩
      rotate_left
      · have hz := hL.none
        rw [hz]
        simp [e0,e2,e3,e5,hmp,hmp',osO,retF,fnO,putA]
        exact fin (p := 5) ho1 hY
      have hLa := hL.2 a rfl
      have hst := hL.step (cons_ins s.list) (n := m - 1) (by omega)
      have hw : IntKind.i64.wrap ((m : Int) - 1) = ((m - 1 : Nat) : Int) := by rw [wrap64 (by omega) (by omega)]; omega
      have hg1 : (L.length + 1) * 56 ≤ 140737488355328 := by omega
      have hg2 : L.length + 1 ≤ mx := by unfold mx; omega
      have hro : (osO s t a false : AObj) = osO s t a false := rfl
      rcases hY with ⟨rfl,rfl,rfl⟩ | ⟨y1,y2,tc,rfl,rfl⟩
      · simp [e0,e2,e3,e5,hmp,hmp',osO,retF,fnO]
        have hi0 : ∀ T : List AObj,(osO s t a false :: T)[0]? = some (osO s t a false) := fun _ => rfl
        refine call_os (i := 0) rfl ho1 .int (os_num hl ho1 _) fun o2 c2 _ ho2 => ?_
        simp [e0,e2,e3,e5,putA]
        refine call_os (i := 0) rfl ho2 .int (os_num hl ho2 _) fun o3 c3 _ ho3 => ?_
        simp [e0,e2,e3,e5,putA]
        refine call_os (i := 0) rfl ho3 .int (os_num hl ho3 _) fun o4 c4 _ ho4 => ?_
        simp [e0,e2,e3,e5,putA]
        refine call_os (i := 0) rfl ho4 .str (os_text hl ho4 _) fun o5 c5 _ ho5 => ?_
        simp [e0,e2,e3,e5,putA]
        refine call_os (i := 0) rfl ho5 .str (os_text hl ho5 _) fun o6 c6 _ ho6 => ?_
        simp [e0,e2,e3,e5,hw,hg1,hg2,putA]
        exact ⟨by unfold mx; omega,hN _ _ _ _ (by omega) (List.Sublist.refl _) ⟨[(rIns s.list (some a)).1],m - 1,(rIns s.list (some a)).2,o6,.ref 7 (c6 + 1) 5 1,[_,_,_],by omega,ho6,hst,.inr ⟨_,_,c6 + 1,rfl,rfl⟩,by simp [upd,e0],by simp [upd,e2],by simp [upd,e3],by simp [upd],rfl⟩⟩
      · simp [e0,e2,e3,e5,hmp,hmp',osO,retF,fnO]
        refine call_os (i := 0) rfl ho1 .int (os_num hl ho1 _) fun o2 c2 _ ho2 => ?_
        simp [e0,e2,e3,e5,putA]
        refine call_os (i := 0) rfl ho2 .int (os_num hl ho2 _) fun o3 c3 _ ho3 => ?_
        simp [e0,e2,e3,e5,putA]
        refine call_os (i := 0) rfl ho3 .int (os_num hl ho3 _) fun o4 c4 _ ho4 => ?_
        simp [e0,e2,e3,e5,putA]
        refine call_os (i := 0) rfl ho4 .str (os_text hl ho4 _) fun o5 c5 _ ho5 => ?_
        simp [e0,e2,e3,e5,putA]
        refine call_os (i := 0) rfl ho5 .str (os_text hl ho5 _) fun o6 c6 _ ho6 => ?_
        simp [e0,e2,e3,e5,hw,hg1,hg2,putA]
        exact hN _ _ (o6 :: retF c :: fnO tf nm (.ref 0 tp 2 Lp.length) (.ref 0 tu 2 Lu.length) .nsl gn (.ref 7 (c6 + 1) 5 (L.length + 1)) :: ⟨false,tp,2,Lp.map TParam.enc⟩ :: ⟨false,tu,2,Lu.map TParam.enc⟩ :: ([] ++ [y1,y2,⟨false,c6 + 1,5,(L ++ [(rIns s.list (some a)).1]).map TIns.enc⟩])) _ (by omega) (by simp [TIns.enc,rIns,retF,fnO]) ⟨L ++ [(rIns s.list (some a)).1],m - 1,(rIns s.list (some a)).2,o6,.ref 7 (c6 + 1) 5 (L.length + 1),[_,_,_],by omega,ho6,hst,.inr ⟨_,_,c6 + 1,by simp,rfl⟩,by simp [upd,e0],by simp [upd,e2],by simp [upd,e3],by simp [upd],rfl⟩
    · simp [e0,e2,e3,retF,fnO]
      refine call_os (i := 0) rfl ho5 .bool (os_flag hl ho5 _) fun o6 c6 _ ho6 => ?_
      simp [e0,e2,e3,putA]
      generalize (rFlag s.list σ5).1 = gn at *
      generalize (rFlag s.list σ5).2 = σ6 at *
      refine call_os (i := 0) rfl ho6 .int (os_num hl ho6 _) fun o7 c7 _ ho7 => ?_
      have hR : rList s.list (rIns s.list) σ6 = rRep (rIns s.list) (rNum s.list σ6).1 (rNum s.list σ6).2 := rfl
      have hnb : (rNum s.list σ6).1 ≤ 1000000000000 := rNum_le s.list σ6
      generalize (rNum s.list σ6).1 = n0 at hR hnb
      generalize (rNum s.list σ6).2 = σ0 at hR ho7
      simp [e0,e2,e3]
      refine loop_drop n0 (fun k e H c' => ∃ (L : List TIns) (m : Nat) (σ1 : RSt) (o1 : AObj) (Y : AV) (C : List AObj),m = n0 - k ∧ ObS s t σ1 o1 ∧ RepAt (rIns s.list) (rList s.list (rIns s.list) σ6) L m σ1 ∧ CodeAt 7 Y L C ∧ e 0 = .ptr 0 t 2 0 0 ∧ e 2 = .ptr 1 c 6 0 0 ∧ e 3 = .ptr 2 tf 6 0 0 ∧ e 5 = .int .i64 m ∧ H = o1 :: retF c :: fnO tf nm (.ref 0 tp 2 Lp.length) (.ref 0 tu 2 Lu.length) (.ref 6 ts 1 Ls.length) gn Y :: ⟨false,tp,2,Lp.map TParam.enc⟩ :: ⟨false,tu,2,Lu.map TParam.enc⟩ :: ([x1,⟨false,ts,1,Ls.map encS⟩] ++ C)) ⟨[],n0,σ0,o7,.nsl,[],by omega,ho7,by rw [hR]; exact RepAt.nil,.inl ⟨rfl,rfl,rfl⟩,by simp [upd,e0],by simp [upd,e2],by simp [upd,e3],by simp [upd],rfl⟩ ?_
      clear e0 e2 e3 e
      intro k e H c' hk ⟨L,m,σ1,o1,Y,C,hm,ho1,hL,hY,e0,e2,e3,e5,hH⟩ N hN
      subst hH
      by_cases hm0 : m = 0
      · subst hm0
        have hz := hL.zero
        rw [hz]
        simp [e0,e2,e3,e5,retF,fnO,putA]
        exact fin (p := 7) ho1 hY
      have hmp : (0 : Int) < (m : Int) := by omega
      have hmp' : 0 < m := by omega
      have ho1' := ho1
      obtain ⟨a,b,rfl,ha,hσ⟩ := ho1'
      rcases hσ with ⟨rfl,rfl⟩ | ⟨rfl,rfl⟩
      rotate_left
      · have hz := hL.none
        rw [hz]
        simp [e0,e2,e3,e5,hmp,hmp',osO,retF,fnO,putA]
        exact fin (p := 7) ho1 hY
      have hLa := hL.2 a rfl
      have hst := hL.step (cons_ins s.list) (n := m - 1) (by omega)
      have hw : IntKind.i64.wrap ((m : Int) - 1) = ((m - 1 : Nat) : Int) := by rw [wrap64 (by omega) (by omega)]; omega
      have hg1 : (L.length + 1) * 56 ≤ 140737488355328 := by omega
      have hg2 : L.length + 1 ≤ mx := by unfold mx; omega
      have hro : (osO s t a false : AObj) = osO s t a false := rfl
      rcases hY with ⟨rfl,rfl,rfl⟩ | ⟨y1,y2,tc,rfl,rfl⟩
      · simp [e0,e2,e3,e5,hmp,hmp',osO,retF,fnO]
        have hi0 : ∀ T : List AObj,(osO s t a false :: T)[0]? = some (osO s t a false) := fun _ => rfl
        refine call_os (i := 0) rfl ho1 .int (os_num hl ho1 _) fun o2 c2 _ ho2 => ?_
        simp [e0,e2,e3,e5,putA]
        refine call_os (i := 0) rfl ho2 .int (os_num hl ho2 _) fun o3 c3 _ ho3 => ?_
        simp [e0,e2,e3,e5,putA]
        refine call_os (i := 0) rfl ho3 .int (os_num hl ho3 _) fun o4 c4 _ ho4 => ?_
        simp [e0,e2,e3,e5,putA]
        refine call_os (i := 0) rfl ho4 .str (os_text hl ho4 _) fun o5 c5 _ ho5 => ?_
        simp [e0,e2,e3,e5,putA]
        refine call_os (i := 0) rfl ho5 .str (os_text hl ho5 _) fun o6 c6 _ ho6 => ?_
        simp [e0,e2,e3,e5,hw,hg1,hg2,putA]
        exact ⟨by unfold mx; omega,hN _ _ _ _ (by omega) (List.Sublist.refl _) ⟨[(rIns s.list (some a)).1],m - 1,(rIns s.list (some a)).2,o6,.ref 9 (c6 + 1) 5 1,[_,_,_],by omega,ho6,hst,.inr ⟨_,_,c6 + 1,rfl,rfl⟩,by simp [upd,e0],by simp [upd,e2],by simp [upd,e3],by simp [upd],rfl⟩⟩
      · simp [e0,e2,e3,e5,hmp,hmp',osO,retF,fnO]
        refine call_os (i := 0) rfl ho1 .int (os_num hl ho1 _) fun o2 c2 _ ho2 => ?_
        simp [e0,e2,e3,e5,putA]
        refine call_os (i := 0) rfl ho2 .int (os_num hl ho2 _) fun o3 c3 _ ho3 => ?_
        simp [e0,e2,e3,e5,putA]
        refine call_os (i := 0) rfl ho3 .int (os_num hl ho3 _) fun o4 c4 _ ho4 => ?_
        simp [e0,e2,e3,e5,putA]
        refine call_os (i := 0) rfl ho4 .str (os_text hl ho4 _) fun o5 c5 _ ho5 => ?_
        simp [e0,e2,e3,e5,putA]
        refine call_os (i := 0) rfl ho5 .str (os_text hl ho5 _) fun o6 c6 _ ho6 => ?_
        simp [e0,e2,e3,e5,hw,hg1,hg2,putA]
        exact hN _ _ (o6 :: retF c :: fnO tf nm (.ref 0 tp 2 Lp.length) (.ref 0 tu 2 Lu.length) (.ref 6 ts 1 Ls.length) gn (.ref 9 (c6 + 1) 5 (L.length + 1)) :: ⟨false,tp,2,Lp.map TParam.enc⟩ :: ⟨false,tu,2,Lu.map TParam.enc⟩ :: ([x1,⟨false,ts,1,Ls.map encS⟩] ++ [y1,y2,⟨false,c6 + 1,5,(L ++ [(rIns s.list (some a)).1]).map TIns.enc⟩])) _ (by omega) (by simp [TIns.enc,rIns,retF,fnO]) ⟨L ++ [(rIns s.list (some a)).1],m - 1,(rIns s.list (some a)).2,o6,.ref 9 (c6 + 1) 5 (L.length + 1),[_,_,_],by omega,ho6,hst,.inr ⟨_,_,c6 + 1,by simp,rfl⟩,by simp [upd,e0],by simp [upd,e2],by simp [upd,e3],by simp [upd],rfl⟩
set_option maxRecDepth 100000
noncomputable def uns (s : List UInt8) : Option TValue := @dite _ (∃ w,SV w ∧ ser w = s) (Classical.propDecidable _) (fun h => some h.choose) fun _ => none
theorem uns_some {s : List UInt8} {w : TValue} (h : uns s = some w) : SV w ∧ ser w = s := by
  unfold uns at h
  split at h
  · rename_i hx
    cases h
    exact hx.choose_spec
  · cases h
theorem uns_none {s : List UInt8} (h : uns s = none) {w : TValue} (hw : SV w) : ser w ≠ s := fun e => by
  unfold uns at h
  rw [dif_pos ⟨w,hw,e⟩] at h
  cases h
theorem SV.gd {v : TValue} (h : SV v) : Gd v := by
  have h1 := h.1
  unfold isVal at h1
  rw [Bool.and_eq_true,pdec_iff] at h1
  exact (gd_iff v).1 h1.2
theorem SV.kind {v : TValue} (h : SV v) : 0 ≤ v.Kind ∧ v.Kind ≤ 3 := inR_iff2 h.2.1
theorem SV.sz {v : TValue} (h : SV v) : v.sz ≤ (ser v).length := by
  have g := h.gd
  have hk := h.kind
  rw [TValue.sz_eq,h.2.2]
  simp only [SL.list_nil,List.length_nil,szL,List.map_nil,List.sum_nil,Nat.add_zero]
  by_cases k3 : v.Kind = 3
  · have : ser v = [115,58] ++ Lib.itoa v.Str.length ++ [58] ++ v.Str ++ [59] := by unfold ser; rw [if_neg (by omega),if_neg (by omega),if_neg (by omega)]
    rw [this]
    simp
    omega
  · rw [g.s3 k3]; simp
def UserQ (s : List UInt8) (v : TValue) (ok : Bool) : Prop := (∀ w,uns s = some w → ok = true ∧ v = w) ∧ (uns s = none → ok = false ∨ v.Kind = 4) ∧ (ok = true → v.sz ≤ s.length)
noncomputable def rField (b : List UInt8) (s : RSt) : TField × RSt :=
  let n := rText b s
  let o := rText b n.2
  let p := rFlag b o.2
  let x := rText b p.2
  match uns x.1 with
  | some v => (⟨n.1,o.1,p.1,v⟩,x.2)
  | none => (⟨n.1,o.1,p.1,mkV 0 0 []⟩,none)
theorem cons_field (b : List UInt8) : Cons b (rField b) TField.sz := by
  refine ⟨?_,fun a a' h => ?_⟩
  · unfold rField
    simp only
    split <;> rfl
  unfold rField at h ⊢
  simp only at h ⊢
  generalize hn : rText b (some a) = n at h ⊢
  generalize ho : rText b n.2 = o at h ⊢
  generalize hp : rFlag b o.2 = p at h ⊢
  generalize hx : rText b p.2 = x at h ⊢
  cases hu : uns x.1 with
  | none => rw [hu] at h; cases h
  | some v =>
    rw [hu] at h
    simp only at h ⊢
    obtain ⟨sv,es⟩ := uns_some hu
    have hv := sv.sz
    rw [es] at hv
    rw [← hx] at h
    obtain ⟨a3,h3,k3,l3⟩ := cons_of_some (cons_text b) h
    rw [← hp] at h3
    obtain ⟨a2,h2,k2,l2⟩ := cons_of_some (cons_flag b) h3
    rw [← ho] at h2
    obtain ⟨a1,h1,k1,l1⟩ := cons_of_some (cons_text b) h2
    rw [← hn] at h1
    obtain ⟨a0,h0,k0,l0⟩ := cons_of_some (cons_text b) h1
    cases h0
    rw [hx] at k3
    rw [ho] at k1
    rw [hn] at k0
    have e : (⟨n.1,o.1,p.1,v⟩ : TField).sz = n.1.length + o.1.length + v.sz := rfl
    rw [e]
    omega
noncomputable def rClass (b : List UInt8) (s : RSt) : TClass × RSt :=
  let n := rText b s
  let q := rText b n.2
  let f := rList b (rField b) q.2
  let m := rList b (rMet b) f.2
  (⟨n.1,q.1,.mk 0 f.1,.mk 0 m.1⟩,m.2)
structure FldI (R : List TField × RSt) (f : RSt → TField × RSt) (s0 : RSt) (L : List TField) (m : Nat) (σ : RSt) : Prop where
  ex : (RepAt f R L m σ ∧ ∀ x,x ∈ L → x.Init.Items = .nil) ∨ (R.2 = none ∧ (σ = none ∨ ∃ x,x ∈ L ∧ x.Init.Kind = 4))
  sz : ∀ a,σ = some a → ∃ a0,s0 = some a0 ∧ a0 + szL TField.sz L + L.length ≤ a
theorem FldI.nil {f : RSt → TField × RSt} {m : Nat} {s0 : RSt} : FldI (rRep f m s0) f s0 [] m s0 := ⟨.inl ⟨RepAt.nil,by simp⟩,fun a h => ⟨a,h,by simp [szL]⟩⟩
theorem FldI.len {R : List TField × RSt} {f : RSt → TField × RSt} {s0 : RSt} {L : List TField} {m a : Nat} (h : FldI R f s0 L m (some a)) : L.length ≤ a := by
  obtain ⟨a0,_,h2⟩ := h.sz a rfl
  omega
theorem FldI.step {b : List UInt8} {R : List TField × RSt} {s0 : RSt} {L : List TField} {m k a : Nat} {v : TValue} {ok : Bool} (h : FldI R (rField b) s0 L m (some a)) (hm : m = k + 1)
    (hq : UserQ (rText b (rFlag b (rText b (rText b (some a)).2).2).2).1 v ok) :
    FldI R (rField b) s0 (L ++ [⟨(rText b (some a)).1,(rText b (rText b (some a)).2).1,(rFlag b (rText b (rText b (some a)).2).2).1,v⟩]) k (if ok then (rText b (rFlag b (rText b (rText b (some a)).2).2).2).2 else none) := by
  obtain ⟨q1,q2,q3⟩ := hq
  refine ⟨?_,fun a' ha' => ?_⟩
  · rcases h.ex with ⟨h1,hI⟩ | ⟨h1,h2⟩
    · have hst := h1.step (cons_field b) hm
      cases hu : uns (rText b (rFlag b (rText b (rText b (some a)).2).2).2).1 with
      | some w =>
        obtain ⟨rfl,rfl⟩ := q1 w hu
        have e : rField b (some a) = (⟨(rText b (some a)).1,(rText b (rText b (some a)).2).1,(rFlag b (rText b (rText b (some a)).2).2).1,v⟩,(rText b (rFlag b (rText b (rText b (some a)).2).2).2).2) := by unfold rField; simp only [hu]
        rw [e] at hst
        refine .inl ⟨hst,fun x hx => ?_⟩
        rcases List.mem_append.1 hx with hx | hx
        · exact hI x hx
        · rw [List.mem_singleton.1 hx]; exact (uns_some hu).1.2.2
      | none =>
        have e : (rField b (some a)).2 = none := by unfold rField; simp only [hu]
        have hR : R.2 = none := by rw [hst.1,e,rep_none]
        refine .inr ⟨hR,?_⟩
        rcases q2 hu with rfl | hk
        · exact .inl rfl
        · exact .inr ⟨_,List.mem_append_right _ (List.mem_singleton.2 rfl),hk⟩
    · refine .inr ⟨h1,?_⟩
      rcases h2 with h2 | ⟨x,hx,hk⟩
      · cases h2
      · exact .inr ⟨x,by simp [hx],hk⟩
  · cases ok with
    | false => cases ha'
    | true =>
      simp only [if_true] at ha'
      have hv := q3 rfl
      obtain ⟨a0,h0,hz⟩ := h.sz a rfl
      refine ⟨a0,h0,?_⟩
      obtain ⟨a3,h3,k3,l3⟩ := cons_of_some (cons_text b) ha'
      obtain ⟨a2,h2,k2,l2⟩ := cons_of_some (cons_flag b) h3
      obtain ⟨a1,h1,k1,l1⟩ := cons_of_some (cons_text b) h2
      obtain ⟨a4,h4,k4,l4⟩ := cons_of_some (cons_text b) h1
      cases h4
      have e : szL TField.sz (L ++ [⟨(rText b (some a)).1,(rText b (rText b (some a)).2).1,(rFlag b (rText b (rText b (some a)).2).2).1,v⟩]) = szL TField.sz L + ((rText b (some a)).1.length + (rText b (rText b (some a)).2).1.length + v.sz) := by simp [szL,TField.sz]
      rw [e,List.length_append,List.length_singleton]
      omega
structure ClsQ (b : List UInt8) (σ : RSt) (k : TClass) (σ' : RSt) : Prop where
  ex : (k.con = (rClass b σ).1.con ∧ σ' = (rClass b σ).2 ∧ ∀ x,x ∈ k.Fields.list → x.Init.Items = .nil) ∨ ((rClass b σ).2 = none ∧ (σ' = none ∨ ∃ x,x ∈ k.Fields.list ∧ x.Init.Kind = 4))
  sz : ∀ a',σ' = some a' → ∃ a,σ = some a ∧ a + k.sz + 1 ≤ a'
structure FldF (R : List TField × RSt) (s0 : RSt) (L : List TField) (σ : RSt) : Prop where
  ex : (R = (L,σ) ∧ ∀ x,x ∈ L → x.Init.Items = .nil) ∨ (R.2 = none ∧ (σ = none ∨ ∃ x,x ∈ L ∧ x.Init.Kind = 4))
  sz : ∀ a,σ = some a → ∃ a0,s0 = some a0 ∧ a0 + szL TField.sz L + L.length ≤ a
theorem FldI.fin0 {R : List TField × RSt} {f : RSt → TField × RSt} {s0 : RSt} {L : List TField} {σ : RSt} (h : FldI R f s0 L 0 σ) : FldF R s0 L σ := ⟨h.ex.imp (fun x => ⟨x.1.zero,x.2⟩) id,h.sz⟩
theorem FldI.finN {R : List TField × RSt} {f : RSt → TField × RSt} {s0 : RSt} {L : List TField} {m : Nat} (h : FldI R f s0 L m none) : FldF R s0 L none := ⟨h.ex.imp (fun x => ⟨x.1.none,x.2⟩) id,h.sz⟩
theorem ClsQ.of {b : List UInt8} {σ σF : RSt} {L : List TField} {SF : SL TField} {SM : SL TMethod} (hF : FldF (rList b (rField b) (rText b (rText b σ).2).2) (rNum b (rText b (rText b σ).2).2).2 L σF) (hSF : SF.list = L) (hSM : SM.list = (rList b (rMet b) σF).1) :
    ClsQ b σ ⟨(rText b σ).1,(rText b (rText b σ).2).1,SF,SM⟩ (rList b (rMet b) σF).2 := by
  refine ⟨?_,fun a' ha' => ?_⟩
  · rcases hF.ex with ⟨h1,h2⟩ | ⟨h1,h2⟩
    · refine .inl ⟨?_,?_,fun x hx => h2 x (hSF ▸ hx)⟩
      · unfold rClass
        simp only [h1]
        simp [TClass.con,SL.con,hSF,hSM]
      · unfold rClass
        simp only [h1]
    · refine .inr ⟨?_,?_⟩
      · unfold rClass
        simp only
        rw [h1]
        exact (cons_list (cons_met b)).non
      · rcases h2 with rfl | ⟨x,hx,hk⟩
        · exact .inl (cons_list (cons_met b)).non
        · exact .inr ⟨x,by rw [show (⟨(rText b σ).1,(rText b (rText b σ).2).1,SF,SM⟩ : TClass).Fields = SF from rfl,hSF]; exact hx,hk⟩
  · obtain ⟨a4,h4,k4,l4⟩ := cons_of_some (cons_list (cons_met b)) ha'
    obtain ⟨a3,h3,k3⟩ := hF.sz a4 h4
    obtain ⟨a2,h2,k2,l2⟩ := cons_of_some (cons_num b) h3
    obtain ⟨a1,h1,k1,l1⟩ := cons_of_some (cons_text b) h2
    obtain ⟨a0,h0,k0,l0⟩ := cons_of_some (cons_text b) h1
    refine ⟨a0,h0,?_⟩
    have e : (⟨(rText b σ).1,(rText b (rText b σ).2).1,SF,SM⟩ : TClass).sz = (rText b σ).1.length + (rText b (rText b σ).2).1.length + (L.length + szL TField.sz L) + ((rList b (rMet b) σF).1.length + szL TMethod.sz (rList b (rMet b) σF).1) := by rw [← hSF,← hSM]; rfl
    rw [e]
    omega
set_option maxRecDepth 100000
theorem tr_bufE {P : Program} {f : Nat} {args : List AV} {p : List UInt8 → Prop} (h : ∀ c,Con P f args [] c fun r O _ => ∃ m,p m ∧ BufQ m r O) : Tr P f args fun _ r => ∃ s : SL UInt8,r = s.av 1 byteRow ∧ p s.list := by
  refine tr_of (Q := fun r O _ => ∃ m,p m ∧ BufQ m r O) h fun c r O c' hc hq ht => ?_
  obtain ⟨m,hm,t,rfl,rfl⟩ := hq
  refine ⟨(SL.mk t m).av 1 byteRow,view_ref (by simp) rfl (fun x _ => byteRow_cell x),⟨SL.mk t m,rfl,hm⟩,from_slc (ht t (by simp [tags])) fun row hr a ha => ?_⟩
  simp only [List.mem_map] at hr
  obtain ⟨b,_,rfl⟩ := hr
  simp [byteRow] at ha
  subst ha
  simp
def SerQ (v : TValue) (r : AV) : Prop := ∃ (t : List UInt8) (ok : Bool),r = .tup [.str t,.bool ok] ∧ (ok = true → isVal v = true ∧ v.plain ∧ (v.Kind ≠ 4 → t = ser v)) ∧ (isVal v = true → v.plain → ok = true)
theorem impl_serG {v : TValue} (hz : v.sz ≤ 1048576) : Tr Tryz.prog 113 [.agg v.enc] fun _ r => SerQ v r := by
  intro c
  have fin : ∀ {H : List AObj} {c' : Nat} (t : List UInt8) (ok : Bool),(ok = true → isVal v = true ∧ v.plain ∧ (v.Kind ≠ 4 → t = ser v)) → (isVal v = true → v.plain → ok = true) → finW (fun r H' _ => H' = [] ∧ SerQ v r ∧ From c r) (.tup [.str t,.bool ok]) H c' := fun {H c'} t ok h1 h2 => fin_plain ⟨rfl,⟨t,ok,rfl,h1,h2⟩,from_tup fun a ha => by
    simp at ha
    rcases ha with rfl | rfl <;> simp⟩
  refine con_of c113 (by simp [F113]) ?_
  unfold F113
  simp
  refine call_fn0 (impl_isVal hz) .bool fun _ _ => ?_
  cases hv : isVal v
  · simp
    exact fin [] false (by simp) (by rw [hv]; simp)
  simp
  refine call_fn0 (impl_isPlain v (by omega)) .bool fun _ _ => ?_
  by_cases hp : v.plain
  rotate_left
  · rw [pdec_false hp]
    simp
    exact fin [] false (by simp) fun _ h => absurd h hp
  rw [pdec_true hp]
  simp
  have hg : v.gd := by
    unfold isVal at hv
    rw [Bool.and_eq_true,pdec_iff] at hv
    exact hv.2
  have g := (gd_iff v).1 hg
  have hst : v.Str.length ≤ v.sz := by rw [TValue.sz_eq]; omega
  by_cases h4 : v.Kind = 4
  · refine call_tree0 (tr_bufE (p := fun m => m.length ≤ 128 * v.sz + 64) (impl_serN hg hp hz h4)) fun r c' _ ⟨s',hr,hs⟩ _ => ?_
    subst hr
    simp
    refine toStrW_sl (by unfold mx; omega) ?_
    simp
    exact fin _ true (fun _ => ⟨hv,hp,fun h => absurd h4 h⟩) fun _ _ => rfl
  · have hk := inR_iff2 ((plain_one h4).1 hp)
    have hn : -1000000000 ≤ v.Num ∧ v.Num ≤ 1000000000 := by
      by_cases k0 : v.Kind = 0
      · rw [g.n0 k0]; omega
      by_cases k1 : v.Kind = 1
      · rcases g.n1 k1 with h | h <;> omega
      by_cases k2 : v.Kind = 2
      · exact inR_iff2 (g.n2 k2)
      · rw [(g.n3 (by omega)).1]; omega
    have hl := ser_le hn.1 hn.2 (by omega : v.Str.length ≤ 1048576)
    refine call_tree0 (tr_buf (impl_ser hk.1 hk.2 hn.1 hn.2 (by omega))) fun r c' _ ⟨s',hr,hs⟩ _ => ?_
    subst hr
    simp
    refine toStrW_sl (by rw [hs]; unfold mx; omega) ?_
    simp
    exact fin _ true (fun _ => ⟨hv,hp,fun _ => hs⟩) fun _ _ => rfl
theorem from_kb (v : TValue) (h : v.Items = .nil) (ok : Bool) (c : Nat) : From c (.tup [.agg v.enc,.bool ok]) := from_tup fun a ha => by
  simp at ha
  rcases ha with rfl | rfl
  · intro T _
    refine .agg fun j a ha => ?_
    have h1 := List.mem_of_getElem? ha
    rw [TValue.enc_eq,h] at h1
    simp at h1
    rcases h1 with rfl | rfl | rfl | rfl | rfl
    · exact .int
    · exact .int
    · exact .str
    · exact .int
    · exact .nsl
  · simp
def UnsR (s : List UInt8) (r : AV) : Prop := ∃ (v : TValue) (ok : Bool),r = .tup [.agg v.enc,.bool ok] ∧ UserQ s v ok
theorem impl_unsR {s : List UInt8} (hs : s.length ≤ 1048576) : Tr Tryz.prog 129 [.str s] fun _ r => UnsR s r := by
  intro c
  refine con_of c129 (by simp [F129]) ?_
  unfold F129
  have fin0 : ∀ {H : List AObj} {c' : Nat},uns s = none → finW (fun r H' _ => H' = [] ∧ UnsR s r ∧ From c r) (.tup [.agg (mkV 0 0 []).enc,.bool false]) H c' := fun {H c'} h => fin_plain ⟨rfl,⟨mkV 0 0 [],false,rfl,⟨fun w hw => (by rw [h] at hw; cases hw),fun _ => .inl rfl,by simp⟩⟩,from_kb _ rfl _ _⟩
  simp [putA]
  refine call_rd (i := 1) (s := s) (t := c + 1) (a := 0) (b := false) rfl (impl_val hs 201 0 (by omega) (c + 1) 0 false _ (by omega)) fun r a1 b1 c1 hc1 hF ⟨v,hr,hI,hz1,hl1,_,_,hex⟩ => ?_
  subst hr
  have hz : v.sz ≤ s.length := by omega
  have hex' : ∀ w,uns s = some w → v = w ∧ a1 = s.length ∧ b1 = false := fun w hw => by
    obtain ⟨h1,h2⟩ := uns_some hw
    exact hex w h1 rfl (by omega) (by rw [h2]; rfl)
  have none_of : (∀ w,uns s = some w → False) → uns s = none := fun h => by
    cases hu : uns s with
    | none => rfl
    | some w => exact (h w hu).elim
  have okw : ∀ w,uns s = some w → isVal w = true ∧ w.plain ∧ w.Kind ≠ 4 ∧ ser w = s := fun w hw => by
    obtain ⟨h1,h2⟩ := uns_some hw
    have hk := inR_iff2 h1.2.1
    exact ⟨h1.1,(plain_one (by omega)).2 h1.2.1,by omega,h2⟩
  cases b1 with
  | true =>
    simp [rdo]
    refine call_fn0 nullV_fn (free_mkV _ _ _ _) fun c4 hc4 => ?_
    simp [putA]
    exact fin0 (none_of fun w hw => by have := (hex' w hw).2.2; cases this)
  | false =>
  by_cases hal : a1 = s.length
  rotate_left
  · have hali : ¬ (a1 : Int) = (s.length : Int) := by omega
    simp [rdo,hal,hali]
    refine call_fn0 nullV_fn (free_mkV _ _ _ _) fun c4 hc4 => ?_
    simp [putA]
    exact fin0 (none_of fun w hw => hal (hex' w hw).2.1)
  simp [rdo,hal,putA]
  refine call_tree0 (impl_serG (by omega)) fun r c2 hc2 ⟨t,ok,hr,q1,q2⟩ hf => ?_
  subst hr
  cases ok with
  | false =>
    simp
    refine call_fn0 nullV_fn (free_mkV _ _ _ _) fun c4 hc4 => ?_
    simp [putA]
    exact fin0 (none_of fun w hw => by
      obtain ⟨rfl,_,_⟩ := hex' w hw
      obtain ⟨h1,h2,_,_⟩ := okw v hw
      have := q2 h1 h2
      cases this)
  | true =>
  obtain ⟨p1,p2,p3⟩ := q1 rfl
  by_cases hts : t = s
  · simp [hts,putA]
    refine fin_plain ⟨rfl,⟨v,true,rfl,⟨fun w hw => ⟨rfl,(hex' w hw).1⟩,fun hu => .inr ?_,fun _ => hz⟩⟩,from_tup fun a ha => ?_⟩
    · refine Classical.byContradiction fun hk => uns_none hu (w := v) ⟨p1,(plain_one hk).1 p2,hI hk⟩ ?_
      rw [← p3 hk,hts]
    · simp at ha
      rcases ha with rfl | rfl
      · exact hF.mono (by omega)
      · simp
  · simp [hts]
    refine call_fn0 nullV_fn (free_mkV _ _ _ _) fun c4 hc4 => ?_
    simp [putA]
    exact fin0 (none_of fun w hw => by
      obtain ⟨rfl,_,_⟩ := hex' w hw
      obtain ⟨_,_,h3,h4⟩ := okw v hw
      exact hts ((p3 h3).trans h4))
theorem impl_uns (s : List UInt8) (hs : s.length ≤ 1048576) : Tr Tryz.prog 129 [.str s] fun _ r => ∃ (v : TValue) (ok : Bool),r = .tup [.agg v.enc,.bool ok] ∧ UserQ s v ok := impl_unsR hs
set_option maxRecDepth 100000
def big1 : List UInt8 := [49,48,48,48,48,48,48,48,48,49]
def numQ (s : List UInt8) (a : Nat) (x : UInt8) : Int × Int :=
  match untGo s x 13 a with
  | none => (0,-1)
  | some i => match sgS ((s.take i).drop a) with
    | some n => (n,((i + 1 : Nat) : Int))
    | none => if (s.take i).drop a = big1 then (1000000001,((i + 1 : Nat) : Int)) else (0,-1)
theorem free_ii (a b : Int) {T : List Nat} : Av T (.tup [.int .i64 a,.int .i64 b]) := .tup fun j x hx => by
  have h := List.mem_of_getElem? hx
  simp at h
  rcases h with rfl | rfl <;> exact .int
set_option maxHeartbeats 1000000 in
theorem spec_num11 {s : List UInt8} {a : Nat} {x : UInt8} (hs : s.length ≤ 1048576) (ha : a ≤ s.length) : Fnc Tryz.prog 195 [.str s,.int .i64 a,.int .u8 x.toNat] (.tup [.int .i64 (numQ s a x).1,.int .i64 (numQ s a x).2]) := by
  refine fn_of c195 (by simp [F195]) fun c => ?_
  unfold F195
  rw [irW_assoc,irW_assoc]
  refine seq_cut (fun e H c' => ∃ i : Nat,a ≤ i ∧ e 0 = .str s ∧ e 1 = .int .i64 a ∧ e 2 = .int .u8 x.toNat ∧ e 8 = .int .i64 i ∧ H = [] ∧ ((s[i]? = some x ∧ untGo s x 13 a = some i) ∨ (untGo s x 13 a = none ∧ s[i]? ≠ some x))) ?_ ?_
  rotate_left
  · intro K hK
    simp
    refine loop_drop 12 (fun k e H c' => ∃ i : Nat,i = a + k ∧ e 0 = .str s ∧ e 1 = .int .i64 a ∧ e 2 = .int .u8 x.toNat ∧ e 8 = .int .i64 i ∧ untGo s x 13 a = untGo s x (13 - k) i ∧ H = []) ⟨a,by omega,rfl,rfl,rfl,by simp [upd],rfl,rfl⟩ ?_
    intro k e H c' hk ⟨i,hi,e0,e1,e2,e8,hu,hH⟩ N hN
    subst hH
    have h13 : 13 - k = (12 - k) + 1 := by omega
    have hv : untGo s x (13 - k) i = match s[i]? with | none => none | some y => if y = x then some i else untGo s x (12 - k) (i + 1) := by rw [h13]; rfl
    rw [hv] at hu
    by_cases hin : i < s.length
    rotate_left
    · have hx : s[i]? = none := List.getElem?_eq_none (by omega)
      rw [hx] at hu
      simp [e0,e1,e2,e8,hin]
      exact hK _ _ _ ⟨i,by omega,by simp [upd,e0],by simp [upd,e1],by simp [upd,e2],by simp [upd,e8],rfl,.inr ⟨hu,by rw [hx]; simp⟩⟩
    obtain ⟨y,hy⟩ : ∃ y,s[i]? = some y := ⟨_,List.getElem?_eq_getElem hin⟩
    rw [hy] at hu
    simp only at hu
    by_cases hyx : y = x
    · subst hyx
      rw [if_pos rfl] at hu
      simp [e0,e1,e2,e8,hin,getW_of hy]
      exact hK _ _ _ ⟨i,by omega,by simp [upd,e0],by simp [upd,e1],by simp [upd,e2],by simp [upd,e8],rfl,.inl ⟨hy,hu⟩⟩
    rw [if_neg hyx] at hu
    have hne : ¬ y.toNat = x.toNat := fun h => hyx (UInt8.toNat_inj.1 h)
    have hne' : ¬ (y.toNat : Int) = x.toNat := by omega
    have hw12 : IntKind.i64.wrap ((a : Int) + 12) = (a : Int) + 12 := wrap64 (by omega) (by omega)
    by_cases hk12 : k < 12
    · have hlt : (i : Int) < (a : Int) + 12 := by omega
      simp [e0,e1,e2,e8,hin,getW_of hy,hne,hne',hyx,hw12,hlt]
      exact hN _ _ [] _ hk12 (by simp) ⟨i + 1,by omega,by simp [upd,e0],by simp [upd,e1],by simp [upd,e2],by simp [upd]; exact step64 (by unfold mx; omega) hin,by rw [hu,show 12 - k = 13 - (k + 1) by omega],rfl⟩
    · have hlt : ¬ (i : Int) < (a : Int) + 12 := by omega
      have hz : 12 - k = 0 := by omega
      rw [hz] at hu
      simp [e0,e1,e2,e8,hin,getW_of hy,hne,hne',hyx,hw12,hlt]
      exact hK _ _ _ ⟨i,by omega,by simp [upd,e0],by simp [upd,e1],by simp [upd,e2],by simp [upd,e8],rfl,.inr ⟨hu,by rw [hy]; simpa using hyx⟩⟩
  · intro e H c' ⟨i,hi,e0,e1,e2,e8,hH,hq⟩
    subst hH
    rcases hq with ⟨hx,hu⟩ | ⟨hu,hx⟩
    rotate_left
    · have hn : numQ s a x = (0,-1) := by unfold numQ; rw [hu]
      rw [hn]
      by_cases hin : i < s.length
      · obtain ⟨y,hy⟩ : ∃ y,s[i]? = some y := ⟨_,List.getElem?_eq_getElem hin⟩
        have hyx : ¬ y = x := fun h => hx (by rw [hy,h])
        have hne : ¬ y.toNat = x.toNat := fun h => hyx (UInt8.toNat_inj.1 h)
        have hne' : ¬ (y.toNat : Int) = x.toNat := by omega
        have hge : ¬ s.length ≤ i := by omega
        simp [e0,e1,e2,e8,hin,hge,getW_of hy,hne,hne',hyx]
        exact fin_plain ⟨rfl,rfl⟩
      · have hge : s.length ≤ i := by omega
        simp [e0,e1,e2,e8,hin,hge]
        exact fin_plain ⟨rfl,rfl⟩
    have hin : i < s.length := (List.getElem?_eq_some_iff.1 hx).1
    have hge : ¬ s.length ≤ i := by omega
    have hil : i ≤ s.length := by omega
    have hw1 : IntKind.i64.wrap ((i : Int) + 1) = ((i + 1 : Nat) : Int) := by rw [wrap64 (by omega) (by omega)]; omega
    simp [e0,e1,e2,e8,hin,hge,getW_of hx,hi,hil]
    refine call_fn0 (specSigned_fn (by simp; unfold mx; omega)) (free_ib _ _) fun _ _ => ?_
    cases hsg : sgS ((s.take i).drop a) with
    | some n =>
      have hn : numQ s a x = (n,((i + 1 : Nat) : Int)) := by unfold numQ; rw [hu]; simp only [hsg]
      rw [hn]
      simp [e0,e1,e2,e8,hw1,-Int.natCast_add]
      exact fin_plain ⟨rfl,rfl⟩
    | none =>
      by_cases hb : (s.take i).drop a = big1
      · have hn : numQ s a x = (1000000001,((i + 1 : Nat) : Int)) := by unfold numQ; rw [hu]; simp only [hsg]; rw [if_pos hb]
        rw [hn]
        have hb' : List.drop a (List.take i s) = [49,48,48,48,48,48,48,48,48,49] := hb
        simp [e0,e1,e2,e8,hw1,hi,hil,hb',-Int.natCast_add]
        exact fin_plain ⟨rfl,rfl⟩
      · have hn : numQ s a x = (0,-1) := by unfold numQ; rw [hu]; simp only [hsg]; rw [if_neg hb]
        rw [hn]
        have hb' : ¬ List.drop a (List.take i s) = [49,48,48,48,48,48,48,48,48,49] := hb
        simp [e0,e1,e2,e8,hw1,hi,hil,hb',-Int.natCast_add]
        exact fin_plain ⟨rfl,rfl⟩
set_option maxRecDepth 100000
def RvQ (s : List UInt8) (a d : Nat) (r : AV) : Prop :=
  ∃ (v : TValue) (next : Int),r = .tup [.agg v.enc,.int .i64 next] ∧ (0 ≤ v.Kind ∧ v.Kind ≤ 4) ∧ (v.Kind ≠ 4 → v.Items = .nil) ∧ (next = -1 ∨ ∃ a' : Nat,next = a' ∧ a + v.sz + 1 ≤ a' ∧ a' ≤ s.length) ∧
    (∀ v0,SV v0 → d ≤ 200 → s.drop a = ser v0 → v = v0 ∧ next = s.length) ∧ (v.Kind ≠ 4 → next = s.length → isVal v = true → s.drop a = ser v)
theorem numQ_bnd (s : List UInt8) (b : Nat) (x : UInt8) : (numQ s b x).2 = -1 ∨ ∃ i : Nat,(numQ s b x).2 = ((i + 1 : Nat) : Int) ∧ b ≤ i ∧ i < s.length ∧ s.drop b = (s.take i).drop b ++ x :: s.drop (i + 1) ∧ (sgS ((s.take i).drop b) = some (numQ s b x).1 ∨ (numQ s b x).1 = 1000000001) := by
  unfold numQ
  cases hu : untGo s x 13 b with
  | none => exact .inl rfl
  | some i =>
    have hb := untGo_bnd 13 b hu
    have hxi : ∀ (f k : Nat) {j : Nat},untGo s x f k = some j → s[j]? = some x := fun f => by
      induction f with
      | zero => intro k j h; cases h
      | succ f ihf =>
        intro k j h
        rw [untGo] at h
        cases hy : s[k]? with
        | none => rw [hy] at h; cases h
        | some y =>
          rw [hy] at h
          simp only at h
          split at h
          · rename_i he
            cases h
            rw [hy,he]
          · exact ihf _ h
    have hx := hxi 13 b hu
    have hd : s.drop b = (s.take i).drop b ++ x :: s.drop (i + 1) := by
      have h1 : s.drop i = x :: s.drop (i + 1) := by rw [List.drop_eq_getElem_cons hb.2,(List.getElem?_eq_some_iff.1 hx).2]
      rw [← h1,List.drop_take]
      have h2 := List.take_append_drop (i - b) (s.drop b)
      rw [List.drop_drop,show b + (i - b) = i by omega] at h2
      exact h2.symm
    simp only
    cases hsg : sgS ((s.take i).drop b) with
    | some n => exact .inr ⟨i,rfl,hb.1,hb.2,hd,.inl hsg⟩
    | none =>
      simp only
      split
      · exact .inr ⟨i,rfl,hb.1,hb.2,hd,.inr rfl⟩
      · exact .inl rfl
theorem itoa_lt13 {n : Int} (h : -1000000000 ≤ n ∧ n ≤ 1000000000) : (Lib.itoa n).length < 13 := by
  have key : ∀ m,m ≤ 1000000000 → (Lib.decDigits m).length ≤ 10 := fun m hm => dd_len (k := 10) (by omega) (by omega)
  unfold Lib.itoa
  split
  · have := key n.natAbs (by omega)
    simp; omega
  · have := key n.toNat (by omega)
    omega
theorem numQ_of {s r : List UInt8} {b : Nat} {x : UInt8} {n : Int} (hx : x.toNat = 58 ∨ x.toNat = 59) (hn : -1000000000 ≤ n ∧ n ≤ 1000000000) (h : s.drop b = Lib.itoa n ++ x :: r) : numQ s b x = (n,((b + (Lib.itoa n).length + 1 : Nat) : Int)) := by
  have hu : untGo s x 13 b = some (b + (Lib.itoa n).length) := untGo_of _ 13 b h (itoa_no hx) (itoa_lt13 hn)
  have hl : (s.take (b + (Lib.itoa n).length)).drop b = Lib.itoa n := by rw [List.drop_take,h,Nat.add_sub_cancel_left]; simp
  unfold numQ
  rw [hu]
  simp only [hl,(sgS_iff _ _).2 ⟨rfl,hn.1,hn.2⟩]
theorem specInt_fn (n : Int) : Fnc Tryz.prog 196 [.int .i64 n] (.agg (mkV 2 n []).enc) := by
  refine fn_of c196 (by simp [F196]) fun c => ?_
  unfold F196
  simp [putA]
  exact fin_plain ⟨by rw [mkV_enc],rfl⟩
theorem specText_fn (s : List UInt8) : Fnc Tryz.prog 197 [.str s] (.agg (mkV 3 0 s).enc) := by
  refine fn_of c197 (by simp [F197]) fun c => ?_
  unfold F197
  simp [putA]
  exact fin_plain ⟨by rw [mkV_enc],rfl⟩
theorem specArr_fn : Fnc Tryz.prog 198 [] (.agg (mkV 4 0 []).enc) := by
  refine fn_of c198 (by simp [F198]) fun c => ?_
  unfold F198
  simp [putA]
  exact fin_plain ⟨by rw [mkV_enc],rfl⟩
theorem from_vi {v : TValue} {c : Nat} (h : From c (.agg v.enc)) (n : Int) : From c (.tup [.agg v.enc,.int .i64 n]) := from_tup fun a ha => by
  simp at ha
  rcases ha with rfl | rfl
  · exact h
  · simp
theorem from_tup_mem9 {c : Nat} {a b : AV} (h : From c (.tup [a,b])) : From c a := fun T hT => by
  have := h T hT
  cases this with
  | tup h => exact h 0 a rfl
theorem fin_arrS {s : List UInt8} {a d c c' : Nat} {nx next : Int} {X : AV} {L : List (TKey × TValue)} {H : List AObj} (hX : (L = [] ∧ X = .nsl) ∨ ∃ i tj n,c ≤ tj ∧ X = .ref i tj 8 n ∧ n = L.length ∧ (⟨false,tj,8,L.map encE⟩ : AObj) ∈ H) (hFL : FL c L)
    (h : next = -1 ∨ ∃ a' : Nat,next = a' ∧ a + (szL szE L + L.length) + 1 ≤ a' ∧ a' ≤ s.length) (hno : ∀ v0,SV v0 → s.drop a = ser v0 → False) :
    finW (fun r H' _ => H' = [] ∧ RvQ s a d r ∧ From c r) (.tup [.agg [.int .i64 4,.int .i64 0,.str [],.int .i64 nx,X],.int .i64 next]) H c' := by
  have fin : ∀ I : SL (TKey × TValue),I.list = L → From c (.agg (arrV nx I).enc) → View H (.agg [.int .i64 4,.int .i64 0,.str [],.int .i64 nx,X]) (.agg (arrV nx I).enc) → finW (fun r H' _ => H' = [] ∧ RvQ s a d r ∧ From c r) (.tup [.agg [.int .i64 4,.int .i64 0,.str [],.int .i64 nx,X],.int .i64 next]) H c' := fun I hI hF hV =>
    have hVs : Views H [.agg [.int .i64 4,.int .i64 0,.str [],.int .i64 nx,X],.int .i64 next] [.agg (arrV nx I).enc,.int .i64 next] := .cons hV (.cons (.refl _) .nil)
    ⟨H,[],[],.tup [.agg (arrV nx I).enc,.int .i64 next],List.nil_sublist _,.nil,fun o h => h,by simp [tags],.tup hVs.spec.1 hVs.spec.2,rfl,
      ⟨arrV nx I,next,rfl,⟨(by decide : (0 : Int) ≤ 4),(by decide : (4 : Int) ≤ 4)⟩,fun h => absurd rfl h,by rw [arrV_sz,hI]; rcases h with h | ⟨a',h1,h2,h3⟩; exact .inl h; exact .inr ⟨a',h1,by omega,h3⟩,fun v0 h4 _ h6 => (hno v0 h4 h6).elim,fun h => absurd rfl h⟩,from_vi hF _⟩
  rcases hX with ⟨rfl,rfl⟩ | ⟨i,tj,n,htj,rfl,rfl,ho⟩
  · have e : (arrV nx .nil).enc = [.int .i64 4,.int .i64 0,.str [],.int .i64 nx,.nsl] := TValue.enc_mk _ _ _ _ _
    exact fin .nil rfl (by rw [e]; exact from_arr trivial) (by rw [e]; exact .refl _)
  · have e : (arrV nx (.mk tj L)).enc = [.int .i64 4,.int .i64 0,.str [],.int .i64 nx,(SL.mk tj L).av 8 encE] := TValue.enc_mk _ _ _ _ _
    refine fin (.mk tj L) rfl (by rw [e]; exact from_arr2 htj hFL) ?_
    rw [e]
    refine viewG (.cons (.refl _) (.cons (.refl _) (.cons (.refl _) (.cons (.refl _) (.cons (view_ref ho rfl fun x _ => encE_cells x) .nil))))) fun a ha => ?_
    simp at ha
    rcases ha with rfl | rfl | rfl | rfl | rfl <;> rfl
def ItemsS (c : Nat) (X : AV) (L : List (TKey × TValue)) (M : List AObj) : Prop := (L = [] ∧ X = .nsl ∧ M = []) ∨ ∃ o1 o2 o3 o4 tj rows n,c ≤ tj ∧ X = .ref 6 tj 8 n ∧ n = L.length ∧ M = [o1,o2,o3,o4,⟨false,tj,8,rows⟩] ∧ rows = L.map encE
set_option maxHeartbeats 4000000 in
theorem spec_val1 {s : List UInt8} {a d : Nat} (hs : s.length ≤ 1048576) (ha : a ≤ s.length) (hd : d ≤ 201)
    (ih : d ≤ 200 → ∀ a,a ≤ s.length → Tr Tryz.prog 163 [.str s,.int .i64 a,.int .i64 ((d + 1 : Nat) : Int)] fun _ r => RvQ s a (d + 1) r) : Tr Tryz.prog 163 [.str s,.int .i64 a,.int .i64 d] fun _ r => RvQ s a d r := by
  intro c
  refine con_of c163 (by simp [F163]) ?_
  unfold F163
  have hw1 : IntKind.i64.wrap ((s.length : Int) - 1) = (s.length : Int) - 1 := wrap64 (by omega) (by omega)
  have zero : ∀ {H : List AObj} {c' : Nat},(∀ v0,SV v0 → d ≤ 200 → s.drop a = ser v0 → False) → finW (fun r H' _ => H' = [] ∧ RvQ s a d r ∧ From c r) (.tup [.agg [.int .i64 0,.int .i64 0,.str [],.int .i64 0,.nsl],.int .i64 (-1)]) H c' := fun {H c'} h => by
    have e := mkV_enc 0 0 []
    refine fin_plain ⟨rfl,⟨mkV 0 0 [],-1,by rw [e],⟨by decide,by decide⟩,fun _ => rfl,.inl rfl,fun v0 h4 h7 h6 => (h v0 h4 h7 h6).elim,fun _ hn => by omega⟩,by rw [← e]; exact from_vi (from_mkV _ _ _ _) _⟩
  by_cases hin : a + 1 < s.length
  rotate_left
  · have hin' : (s.length : Int) - 1 ≤ (a : Int) := by omega
    simp [hw1,hin',putA]
    exact zero fun v0 h4 _ h6 => by
      have hl := congrArg List.length h6
      rcases ser_cases h4 with ⟨_,q2⟩ | ⟨_,_,q2⟩ | ⟨_,_,q2⟩ | ⟨_,_,q2⟩ <;> (rw [q2] at hl; simp at hl; omega)
  have hin' : ¬ (s.length : Int) - 1 ≤ (a : Int) := by omega
  by_cases hd2 : d ≤ 200
  rotate_left
  · have hd3 : (200 : Int) < (d : Int) := by omega
    have hd4 : 200 < d := by omega
    simp [hw1,hin',hd3,hd4,putA]
    exact zero fun v0 h4 h7 h6 => hd2 h7
  have hd3 : ¬ (200 : Int) < (d : Int) := by omega
  have hd4 : ¬ 200 < d := by omega
  have hw2 : IntKind.i64.wrap ((a : Int) + 2) = ((a + 2 : Nat) : Int) := by rw [wrap64 (by omega) (by omega)]; omega
  have hl2 : a + 2 ≤ s.length := by omega
  obtain ⟨x,hx⟩ : ∃ x,s[a]? = some x := ⟨_,List.getElem?_eq_getElem (by omega)⟩
  obtain ⟨y,hy⟩ : ∃ y,s[a + 1]? = some y := ⟨_,List.getElem?_eq_getElem hin⟩
  have hdr : s.drop a = x :: y :: s.drop (a + 2) := by rw [List.drop_eq_getElem_cons (by omega),(List.getElem?_eq_some_iff.1 hx).2,List.drop_eq_getElem_cons hin,(List.getElem?_eq_some_iff.1 hy).2]
  have hhd : (s.take (a + 2)).drop a = [x,y] := by rw [List.drop_take,hdr,Nat.add_sub_cancel_left]; rfl
  have hlen : (s.drop (a + 2)).length = s.length - (a + 2) := by simp
  by_cases hN : x = 78 ∧ y = 59
  · obtain ⟨rfl,rfl⟩ := hN
    simp [hw1,hin',hd3,hd4,hw2,hl2,hhd,putA,-Int.natCast_add]
    have e := mkV_enc 0 0 []
    refine fin_plain ⟨rfl,⟨mkV 0 0 [],((a + 2 : Nat) : Int),by rw [e],⟨by decide,by decide⟩,fun _ => rfl,.inr ⟨a + 2,rfl,by rw [mkV_sz]; simp,hl2⟩,fun v0 h4 h7 h6 => ?_,fun _ hn _ => ?_⟩,by rw [← e]; exact from_vi (from_mkV _ _ _ _) _⟩
    · rcases ser_cases h4 with ⟨q1,q2⟩ | ⟨_,_,q2⟩ | ⟨_,_,q2⟩ | ⟨_,_,q2⟩
      · have h3 := (List.cons.inj (List.cons.inj (hdr.symm.trans (h6.trans q2))).2).2
        rw [h3] at hlen
        simp at hlen
        exact ⟨q1.symm,by omega⟩
      all_goals exact absurd (List.cons.inj (hdr.symm.trans (h6.trans q2))).1 (by decide)
    · have h3 : s.drop (a + 2) = [] := List.drop_of_length_le (by omega)
      rw [hdr,h3]
      rfl
  have hser : ∀ v0,SV v0 → s.drop a = ser v0 → y = 58 ∧ (x = 98 ∨ x = 105 ∨ x = 115) := fun v0 h4 h6 => by
    rcases ser_cases h4 with ⟨q1,q2⟩ | ⟨_,_,q2⟩ | ⟨_,_,q2⟩ | ⟨_,_,q2⟩ <;> (have hx2 := hdr.symm.trans (h6.trans q2); have h1 := (List.cons.inj hx2).1; have h2 := (List.cons.inj (List.cons.inj hx2).2).1)
    · exact absurd ⟨h1,h2⟩ hN
    · exact ⟨h2,.inl h1⟩
    · exact ⟨h2,.inr (.inl h1)⟩
    · exact ⟨h2,.inr (.inr h1)⟩
  have hNx : x = 78 → ¬ y = 59 := fun h1 h2 => hN ⟨h1,h2⟩
  by_cases hy58 : y = 58
  rotate_left
  · simp [hw1,hin',hd3,hd4,hw2,hl2,hhd,hy58,hN,putA,-Int.natCast_add]
    exact zero fun v0 h4 _ h6 => hy58 (hser v0 h4 h6).1
  subst hy58
  have num : ∀ (kk : Int),(x = 98 ∧ kk = 1 ∨ x = 105 ∧ kk = 2) → RvQ s a d (.tup [.agg (mkV kk (numQ s (a + 2) 59).1 []).enc,.int .i64 (numQ s (a + 2) 59).2]) := fun kk hkk => by
    have hb := numQ_bnd s (a + 2) 59
    refine ⟨_,_,rfl,by rcases hkk with ⟨_,rfl⟩ | ⟨_,rfl⟩; exact (by decide : (0 : Int) ≤ 1 ∧ (1 : Int) ≤ 4); exact (by decide : (0 : Int) ≤ 2 ∧ (2 : Int) ≤ 4),fun _ => rfl,?_,fun v0 h4 _ h6 => ?_,fun _ hn hv => ?_⟩
    · rcases hb with h | ⟨i,h1,h2,h3,_⟩
      · exact .inl h
      · exact .inr ⟨i + 1,h1,by rw [mkV_sz]; simp; omega,by omega⟩
    · clear hb
      rcases ser_cases h4 with ⟨q1,q2⟩ | ⟨q1,q3,q2⟩ | ⟨q1,q3,q2⟩ | ⟨q1,q3,q2⟩
      · exact absurd (List.cons.inj (List.cons.inj (hdr.symm.trans (h6.trans q2))).2).1 (by decide)
      · have hx2 := hdr.symm.trans (h6.trans q2)
        have hx3 := (List.cons.inj hx2).1
        have hx4 := (List.cons.inj (List.cons.inj hx2).2).2
        have hn : -1000000000 ≤ v0.Num ∧ v0.Num ≤ 1000000000 := by rcases q3 with q | q <;> omega
        have e := numQ_of (r := []) (.inr rfl) hn hx4
        have hl := congrArg List.length hx4
        simp at hl
        rcases hkk with ⟨_,rfl⟩ | ⟨hk,_⟩
        · exact ⟨by rw [e]; exact q1.symm,by rw [e]; show ((a + 2 + (Lib.itoa v0.Num).length + 1 : Nat) : Int) = (s.length : Int); omega⟩
        · rw [hk] at hx3; simp at hx3
      · have hx2 := hdr.symm.trans (h6.trans q2)
        have hx3 := (List.cons.inj hx2).1
        have hx4 := (List.cons.inj (List.cons.inj hx2).2).2
        have e := numQ_of (r := []) (.inr rfl) (inR_iff2 q3) hx4
        have hl := congrArg List.length hx4
        simp at hl
        rcases hkk with ⟨hk,_⟩ | ⟨_,rfl⟩
        · rw [hk] at hx3; simp at hx3
        · exact ⟨by rw [e]; exact q1.symm,by rw [e]; show ((a + 2 + (Lib.itoa v0.Num).length + 1 : Nat) : Int) = (s.length : Int); omega⟩
      · have hx3 := (List.cons.inj (hdr.symm.trans (h6.trans q2))).1
        rcases hkk with ⟨hk,_⟩ | ⟨hk,_⟩ <;> (rw [hk] at hx3; simp at hx3)
    · rcases hb with h | ⟨i,h1,h2,h3,h4,h5⟩
      · rw [h] at hn; omega
      · have hi : i + 1 = s.length := by rw [h1] at hn; omega
        rw [hi,List.drop_length] at h4
        have hg : Gd (mkV kk (numQ s (a + 2) 59).1 []) := by
          unfold isVal at hv
          rw [Bool.and_eq_true,pdec_iff] at hv
          exact (gd_iff _).1 hv.2
        have hr : -1000000000 ≤ (numQ s (a + 2) 59).1 ∧ (numQ s (a + 2) 59).1 ≤ 1000000000 := by
          rcases hkk with ⟨_,rfl⟩ | ⟨_,rfl⟩
          · have h : (numQ s (a + 2) 59).1 = 0 ∨ (numQ s (a + 2) 59).1 = 1 := hg.n1 rfl
            rcases h with h | h <;> omega
          · exact inR_iff2 (hg.n2 rfl)
        rcases h5 with h5 | h5
        · have h7 := ((sgS_iff _ _).1 h5).1
          rw [hdr,h4,← h7]
          rcases hkk with ⟨rfl,rfl⟩ | ⟨rfl,rfl⟩
          · show _ = ser (mkV 1 _ [])
            simp [ser,mkV,TValue.Kind,TValue.Num]
          · show _ = ser (mkV 2 _ [])
            simp [ser,mkV,TValue.Kind,TValue.Num]
        · omega
  by_cases h98 : x = 98
  · subst h98
    have hnum := num 1 (.inl ⟨rfl,rfl⟩)
    simp [hw1,hin',hd3,hd4,hw2,hl2,hhd,putA,-Int.natCast_add]
    refine call_fn0 (spec_num11 (x := 59) hs hl2) (free_ii _ _) fun _ _ => ?_
    simp [hhd,putA]
    rw [mkV_enc] at hnum
    exact fin_plain ⟨rfl,hnum,by rw [← mkV_enc]; exact from_vi (from_mkV _ _ _ _) _⟩
  by_cases h105 : x = 105
  · subst h105
    have hnum := num 2 (.inr ⟨rfl,rfl⟩)
    simp [hw1,hin',hd3,hd4,hw2,hl2,hhd,putA,-Int.natCast_add]
    refine call_fn0 (spec_num11 (x := 59) hs hl2) (free_ii _ _) fun _ _ => ?_
    simp [hhd,putA,-Int.natCast_add]
    refine call_fn0 (specInt_fn _) (free_mkV _ _ _ _) fun _ _ => ?_
    simp [putA]
    exact fin_plain ⟨rfl,hnum,from_vi (from_mkV _ _ _ _) _⟩
  by_cases h115 : x = 115
  · subst h115
    have sfact : ∀ v0,SV v0 → s.drop a = ser v0 → numQ s (a + 2) 58 = ((v0.Str.length : Int),((a + 2 + (Lib.itoa (v0.Str.length : Int)).length + 1 : Nat) : Int)) ∧ s.drop (a + 2 + (Lib.itoa (v0.Str.length : Int)).length + 1) = v0.Str ++ [59] ∧ v0 = mkV 3 0 v0.Str := fun v0 h4 h6 => by
      rcases ser_cases h4 with ⟨q1,q2⟩ | ⟨q1,q3,q2⟩ | ⟨q1,q3,q2⟩ | ⟨q1,q3,q2⟩
      · exact absurd (List.cons.inj (hdr.symm.trans (h6.trans q2))).1 (by decide)
      · exact absurd (List.cons.inj (hdr.symm.trans (h6.trans q2))).1 (by decide)
      · exact absurd (List.cons.inj (hdr.symm.trans (h6.trans q2))).1 (by decide)
      · have hx4 := (List.cons.inj (List.cons.inj (hdr.symm.trans (h6.trans q2))).2).2
        refine ⟨numQ_of (r := v0.Str ++ [59]) (.inl rfl) (by omega) hx4,?_,q1⟩
        rw [Nat.add_assoc,← List.drop_drop,hx4]
        simp
    have hb := numQ_bnd s (a + 2) 58
    simp [hw1,hin',hd3,hd4,hw2,hl2,hhd,putA,-Int.natCast_add]
    refine call_fn0 (spec_num11 (x := 58) hs hl2) (free_ii _ _) fun _ _ => ?_
    generalize numQ s (a + 2) 58 = q at hb sfact ⊢
    obtain ⟨n,nx⟩ := q
    simp only at hb
    rcases hb with rfl | ⟨i,rfl,h2,h3,h4,h5⟩
    · simp [hhd,putA,-Int.natCast_add]
      exact zero fun v0 h4 _ h6 => by
        have := (Prod.mk.inj (sfact v0 h4 h6).1).2
        omega
    have hnn : ¬ ((i + 1 : Nat) : Int) < 0 := by omega
    by_cases hn0 : n < 0
    · simp [hhd,hn0,hnn,putA,-Int.natCast_add]
      exact zero fun v0 h4 _ h6 => by
        have := (Prod.mk.inj (sfact v0 h4 h6).1).1
        omega
    obtain ⟨m,rfl⟩ := Int.eq_ofNat_of_zero_le (show 0 ≤ n by omega)
    have hm0 : ¬ ((m : Int) < 0) := by omega
    have hws : IntKind.i64.wrap ((s.length : Int) - ((i + 1 : Nat) : Int)) = ((s.length - (i + 1) : Nat) : Int) := by rw [wrap64 (by omega) (by omega)]; omega
    have sf2 : ∀ v0,SV v0 → s.drop a = ser v0 → m = v0.Str.length ∧ s.drop (i + 1) = v0.Str ++ [59] ∧ v0 = mkV 3 0 v0.Str := fun v0 h4 h6 => by
      obtain ⟨q1,q2,q3⟩ := sfact v0 h4 h6
      have e1 := (Prod.mk.inj q1).1
      have e2 : i + 1 = a + 2 + (Lib.itoa (v0.Str.length : Int)).length + 1 := by have := (Prod.mk.inj q1).2; omega
      exact ⟨by omega,by rw [e2]; exact q2,q3⟩
    by_cases hm : s.length - (i + 1) ≤ m
    · have hm' : ((s.length - (i + 1) : Nat) : Int) ≤ (m : Int) := by omega
      simp [hhd,hnn,hm0,hws,hm,hm',putA,-Int.natCast_add]
      exact zero fun v0 h4 _ h6 => by
        obtain ⟨q1,q2,_⟩ := sf2 v0 h4 h6
        have := congrArg List.length q2
        simp at this
        omega
    have hm' : ¬ ((s.length - (i + 1) : Nat) : Int) ≤ (m : Int) := by omega
    have hw3 : IntKind.i64.wrap (((i + 1 : Nat) : Int) + (m : Int)) = ((i + 1 + m : Nat) : Int) := by rw [wrap64 (by omega) (by omega)]; omega
    have hil : i + 1 + m < s.length := by omega
    obtain ⟨z,hz⟩ : ∃ z,s[i + 1 + m]? = some z := ⟨_,List.getElem?_eq_getElem hil⟩
    by_cases hz59 : z = 59
    rotate_left
    · have hz1 : ¬ z.toNat = 59 := fun h => hz59 (UInt8.toNat_inj.1 h)
      have hz2 : ¬ (z.toNat : Int) = 59 := by omega
      simp [hhd,hnn,hm0,hws,hm,hm',hw3,getW_of hz,hz59,hz1,hz2,putA,-Int.natCast_add]
      exact zero fun v0 h4 _ h6 => by
        obtain ⟨q1,q2,_⟩ := sf2 v0 h4 h6
        have h9 : (s.drop (i + 1))[m]? = some z := by rw [List.getElem?_drop,hz]
        rw [q2,q1] at h9
        simp at h9
        exact hz59 h9.symm
    subst hz59
    have hle3 : i + 1 + m ≤ s.length := by omega
    have hle4 : i + 1 ≤ i + 1 + m := by omega
    have hw4 : IntKind.i64.wrap (((i + 1 + m : Nat) : Int) + 1) = ((i + 1 + m + 1 : Nat) : Int) := by rw [wrap64 (by omega) (by omega)]; omega
    simp [hhd,hnn,hm0,hws,hm,hm',hw3,hw4,hle3,hle4,getW_of hz,putA,-Int.natCast_add]
    refine call_fn0 (specText_fn _) (free_mkV _ _ _ _) fun _ _ => ?_
    have hsl : ((s.take (i + 1 + m)).drop (i + 1)).length = m := by simp; omega
    simp [hw3,hw4,putA,-Int.natCast_add]
    refine fin_plain ⟨rfl,⟨mkV 3 0 ((s.take (i + 1 + m)).drop (i + 1)),((i + 1 + m + 1 : Nat) : Int),rfl,⟨(by decide : (0 : Int) ≤ 3),(by decide : (3 : Int) ≤ 4)⟩,fun _ => rfl,.inr ⟨_,rfl,by rw [mkV_sz,hsl]; omega,by omega⟩,fun v0 h4 _ h6 => ?_,fun _ hn hv => ?_⟩,from_vi (from_mkV _ _ _ _) _⟩
    · obtain ⟨q1,q2,q3⟩ := sf2 v0 h4 h6
      have hl := congrArg List.length q2
      simp at hl
      refine ⟨?_,by omega⟩
      rw [q3]
      congr 1
      rw [List.drop_take,q2,Nat.add_sub_cancel_left,q1]
      simp
    · have hm5 : i + 1 + m + 1 = s.length := by omega
      have hdd : s.drop (i + 1) = (s.take (i + 1 + m)).drop (i + 1) ++ [59] := by
        have e1 : s.drop (i + 1 + m) = [59] := by
          rw [List.drop_eq_getElem_cons hil,(List.getElem?_eq_some_iff.1 hz).2,hm5,List.drop_length]
        have e2 := List.take_append_drop m (s.drop (i + 1))
        rw [List.drop_drop,e1] at e2
        rw [List.drop_take,Nat.add_sub_cancel_left]
        exact e2.symm
      rcases h5 with h5 | h5
      · have h7 := ((sgS_iff _ _).1 h5).1
        rw [hdr,h4,← h7,hdd]
        show _ = ser (mkV 3 0 _)
        simp [ser,mkV,TValue.Kind,TValue.Str,hsl]
      · omega
  have hno : x ≠ 98 → x ≠ 105 → x ≠ 115 → ∀ v0,SV v0 → s.drop a = ser v0 → False := fun n1 n2 n3 v0 h4 h6 => by
    rcases (hser v0 h4 h6).2 with h | h | h
    · exact n1 h
    · exact n2 h
    · exact n3 h
  have hno' := hno h98 h105 h115
  by_cases h97 : x = 97
  rotate_left
  · simp [hw1,hin',hd3,hd4,hw2,hl2,hhd,h98,h105,h115,h97,putA,-Int.natCast_add]
    exact zero fun v0 h4 _ h6 => hno' v0 h4 h6
  subst h97
  have hb := numQ_bnd s (a + 2) 58
  simp [hw1,hin',hd3,hd4,hw2,hl2,hhd,putA,-Int.natCast_add]
  refine call_fn0 (spec_num11 (x := 58) hs hl2) (free_ii _ _) fun _ _ => ?_
  generalize numQ s (a + 2) 58 = q at hb ⊢
  obtain ⟨n,nx⟩ := q
  simp only at hb
  rcases hb with rfl | ⟨i,rfl,h2,h3,h4,h5⟩
  · simp [hhd,putA,-Int.natCast_add]
    exact zero fun v0 h4 _ h6 => hno' v0 h4 h6
  have hnn : ¬ ((i + 1 : Nat) : Int) < 0 := by omega
  by_cases hn0 : n < 0
  · simp [hhd,hn0,hnn,putA,-Int.natCast_add]
    exact zero fun v0 h4 _ h6 => hno' v0 h4 h6
  obtain ⟨m,rfl⟩ := Int.eq_ofNat_of_zero_le (show 0 ≤ n by omega)
  have hm0 : ¬ ((m : Int) < 0) := by omega
  by_cases hm : m ≤ 200
  rotate_left
  · have hm' : (200 : Int) < (m : Int) := by omega
    have hm2 : 200 < m := by omega
    simp [hhd,hm',hm2,hnn,hm0,putA,-Int.natCast_add]
    exact zero fun v0 h4 _ h6 => hno' v0 h4 h6
  have hm' : ¬ (200 : Int) < (m : Int) := by omega
  have hm2 : ¬ 200 < m := by omega
  have hi1 : i + 1 ≤ s.length := by omega
  simp [hhd,hm',hm2,hnn,hm0,putA,-Int.natCast_add]
  refine call_fn0 specArr_fn (free_mkV _ _ _ _) fun c1 hc1 => ?_
  rw [mkV_enc]
  simp [hhd,hm',hm2,hnn,hm0,putA,-Int.natCast_add]
  refine call_fn0 (spec_num11 (x := 123) hs hi1) (free_ii _ _) fun c2 hc2 => ?_
  have hb2 := numQ_bnd s (i + 1) 123
  generalize numQ s (i + 1) 123 = q at hb2 ⊢
  obtain ⟨nn,nx2⟩ := q
  simp only at hb2
  have hb3 : nx2 = -1 ∨ ∃ j : Nat,nx2 = j ∧ i + 2 ≤ j ∧ j ≤ s.length := by
    rcases hb2 with h | ⟨j,h1,h2,h3,_⟩
    · exact .inl h
    · exact .inr ⟨j + 1,h1,by omega,by omega⟩
  clear hb2
  simp [hhd,hm',hm2,hnn,hm0,putA,-Int.natCast_add]
  have hdw : IntKind.i64.wrap ((d : Int) + 1) = ((d + 1 : Nat) : Int) := by rw [wrap64 (by omega) (by omega)]; omega
  refine loop_drop 200 (fun k e H c'' => ∃ (L : List (TKey × TValue)) (X : AV) (M : List AObj) (nx : Int),H = retO c :: arrO c1 nn X :: M ∧ ItemsS c X L M ∧ FL c L ∧ L.length = k ∧ (nx = -1 ∨ ∃ a1 : Nat,nx = a1 ∧ a + 2 + szL szE L + L.length ≤ a1 ∧ a1 ≤ s.length) ∧ c2 ≤ c'' ∧ e 0 = .str s ∧ e 2 = .int .i64 d ∧ e 6 = .ptr 0 c 5 0 0 ∧ e 9 = .int .i64 m ∧ e 10 = .int .i64 nx ∧ e 11 = .ptr 1 c1 5 0 0 ∧ e 12 = .int .i64 k) ⟨[],.nsl,[],nx2,rfl,.inl ⟨rfl,rfl,rfl⟩,(fun e he => by simp at he),rfl,by rcases hb3 with h | ⟨j,h1,h2,h3⟩; exact .inl h; exact .inr ⟨j,h1,by simp [szL]; omega,h3⟩,by omega,by simp [upd,env0],by simp [upd,env0],by simp [upd],by simp [upd],by simp [upd],by simp [upd],by simp [upd]⟩ ?_
  clear hb3
  intro k e H c3 hk ⟨L,X,M,nx,hH,hX,hFL,hLk,hnx,hc3,e0,e2,e6,e9,e10,e11,e12⟩ N hN
  subst hH
  have hXm : (L = [] ∧ X = .nsl) ∨ ∃ i tj n,c ≤ tj ∧ X = .ref i tj 8 n ∧ n = L.length ∧ (⟨false,tj,8,L.map encE⟩ : AObj) ∈ M := by
    rcases hX with ⟨h1,h2,_⟩ | ⟨o1,o2,o3,o4,tj,rows,n,h1,h2,h3,h4,h5⟩
    · exact .inl ⟨h1,h2⟩
    · exact .inr ⟨6,tj,n,h1,h2,h3,by rw [h4,h5]; simp⟩
  have hXH : ∀ {H : List AObj},(∀ o,o ∈ M → o ∈ H) → (L = [] ∧ X = .nsl) ∨ ∃ i tj n,c ≤ tj ∧ X = .ref i tj 8 n ∧ n = L.length ∧ (⟨false,tj,8,L.map encE⟩ : AObj) ∈ H := fun {H} hM => hXm.imp id fun ⟨i,tj,n,h1,h2,h3,h4⟩ => ⟨i,tj,n,h1,h2,h3,hM _ h4⟩
  have hkm200 : k < m → k < 200 := fun h => by omega
  have fail : ∀ {H : List AObj} {c' : Nat},(∀ o,o ∈ M → o ∈ H) → finW (fun r H' _ => H' = [] ∧ RvQ s a d r ∧ From c r) (.tup [.agg [.int .i64 4,.int .i64 0,.str [],.int .i64 nn,X],.int .i64 (-1)]) H c' := fun {H c'} hM => fin_arrS (hXH hM) hFL (.inl rfl) hno'
  rcases hnx with rfl | ⟨a1,rfl,ha1,hal⟩
  · by_cases hkm : k < m
    · simp [e0,e2,e6,e9,e10,e11,e12,hkm,retO,arrO,putA]
      exact fail fun o ho => by simp [ho]
    · have hkm' : ¬ (k : Int) < (m : Int) := by omega
      simp [e0,e2,e6,e9,e10,e11,e12,hkm,hkm',retO,arrO,putA]
      exact fail fun o ho => by simp [ho]
  have hnn1 : ¬ ((a1 : Int) < 0) := by omega
  have hnn2 : (0 : Int) ≤ (a1 : Int) := by omega
  by_cases hkm : k < m
  rotate_left
  · have hkm' : ¬ (k : Int) < (m : Int) := by omega
    by_cases ha1l : a1 < s.length
    rotate_left
    · have hge : (s.length : Int) ≤ (a1 : Int) := by omega
      have hge' : s.length ≤ a1 := by omega
      simp [e0,e2,e6,e9,e10,e11,e12,hkm,hkm',hnn1,hnn2,hge,hge',retO,arrO,putA]
      exact fail fun o ho => by simp [ho]
    have hge : ¬ (s.length : Int) ≤ (a1 : Int) := by omega
    have hge' : ¬ s.length ≤ a1 := by omega
    obtain ⟨z,hz⟩ : ∃ z,s[a1]? = some z := ⟨_,List.getElem?_eq_getElem ha1l⟩
    by_cases hz59 : z = 125
    rotate_left
    · have hz1 : ¬ z.toNat = 125 := fun h => hz59 (UInt8.toNat_inj.1 h)
      have hz2 : ¬ (z.toNat : Int) = 125 := by omega
      simp [e0,e2,e6,e9,e10,e11,e12,hkm,hkm',hnn1,hnn2,hge,hge',getW_of hz,hz59,hz1,hz2,retO,arrO,putA]
      exact fail fun o ho => by simp [ho]
    subst hz59
    have hw5 : IntKind.i64.wrap ((a1 : Int) + 1) = ((a1 + 1 : Nat) : Int) := by rw [wrap64 (by omega) (by omega)]; omega
    simp [e0,e2,e6,e9,e10,e11,e12,hkm,hkm',hnn1,hnn2,hge,hge',getW_of hz,hw5,retO,arrO,putA,-Int.natCast_add]
    exact fin_arrS (hXH fun o ho => by simp [ho]) hFL (.inr ⟨a1 + 1,rfl,by omega,by omega⟩) hno'
  have hk200 := hkm200 hkm
  have stepQ : ∀ (v1 v2 : TValue) (n2 : Int) (k1 : TKey) (a3 : Nat),k1.Str.length ≤ v1.sz → a1 + v1.sz + 1 ≤ a3 → (n2 = -1 ∨ ∃ a' : Nat,n2 = a' ∧ a3 + v2.sz + 1 ≤ a' ∧ a' ≤ s.length) →
      (n2 = -1 ∨ ∃ a' : Nat,n2 = a' ∧ a + 2 + szL szE (L ++ [(k1,v2)]) + (L ++ [(k1,v2)]).length ≤ a' ∧ a' ≤ s.length) := fun v1 v2 n2 k1 a3 h1 h2 h3 => h3.imp id fun ⟨a',q1,q2,q3⟩ => ⟨a',q1,by
        have e : szL szE (L ++ [(k1,v2)]) = szL szE L + (k1.Str.length + v2.sz) := by simp [szL,szE]
        rw [e,List.length_append,List.length_singleton]
        omega,q3⟩
  rcases hX with ⟨rfl,rfl,rfl⟩ | ⟨p1,p2,p3,p4,tj,rows,n5,htj,rfl,hn5,rfl,hrows⟩
  · simp [e0,e2,e6,e9,e10,e11,e12,hkm,hnn1,hnn2,hdw,retO,arrO,putA,-Int.natCast_add]
    refine call_tree0 (ih hd2 a1 hal) fun r c4 hc4 ⟨v1,n1,hr,hk1,hi1,hz1,_,_⟩ hF1 => ?_
    subst hr
    have hs1 : v1.Str.length ≤ v1.sz := by rw [TValue.sz_eq]; omega
    rcases hz1 with rfl | ⟨a3,rfl,hz1,hl1⟩
    · simp [e0,e2,e6,e9,e10,e11,e12,retO,arrO,putA,-Int.natCast_add]
      exact fail fun o ho => by simp at ho
    have hnn3 : ¬ ((a3 : Int) < 0) := by omega
    simp [e0,e2,e6,e9,e10,e11,e12,hnn3,retO,arrO,putA,-Int.natCast_add]
    refine call_fn0 (l1In_fn _ _ _) .bool fun _ _ => ?_
    cases hin1 : inR v1.Kind 2 3
    · simp [e0,e2,e6,e9,e10,e11,e12,hnn3,retO,arrO,putA,-Int.natCast_add]
      exact fail fun o ho => by simp at ho
    simp [e0,e2,e6,e9,e10,e11,e12,hnn3,hdw,retO,arrO,putA,-Int.natCast_add]
    refine call_tree0 (ih hd2 a3 hl1) fun r c5 hc5 ⟨v2,n2,hr,hk2,hi2,hz2,_,_⟩ hF2 => ?_
    subst hr
    have hst := stepQ v1 v2 n2 ⟨decide (v1.Kind = 3),v1.Num,v1.Str⟩ a3 hs1 hz1 hz2
    have hvF : From c (.agg v2.enc) := (from_tup_mem9 hF2).mono (by omega)
    simp [e0,e2,e6,e9,e10,e11,e12,hnn3,retO,arrO,putA,-Int.natCast_add]
    exact ⟨by unfold mx; omega,hN _ _ (List.take 7 _) _ hk200 (List.take_sublist 7 _) ⟨[] ++ [(⟨decide (v1.Kind = 3),v1.Num,v1.Str⟩,v2)],_,_,n2,rfl,.inr ⟨_,_,_,_,_,_,_,(by omega),rfl,by simp,rfl,by simp [encE,TKey.enc]⟩,FL.step hFL hvF,by simp [hLk],hst,by omega,by simp [upd,e0],by simp [upd,e2],by simp [upd,e6],by simp [upd,e9],by simp [upd],by simp [upd,e11],by simp [upd]; exact step64 (n := 200) (by unfold mx; omega) hk200⟩⟩
  · subst hn5 hrows
    have hg1 : (L.length + 1) * 96 ≤ 140737488355328 := by omega
    have hg2 : L.length + 1 ≤ mx := by unfold mx; omega
    simp [e0,e2,e6,e9,e10,e11,e12,hkm,hnn1,hnn2,hdw,retO,arrO,putA,-Int.natCast_add]
    refine call_tree0 (ih hd2 a1 hal) fun r c4 hc4 ⟨v1,n1,hr,hk1,hi1,hz1,_,_⟩ hF1 => ?_
    subst hr
    have hs1 : v1.Str.length ≤ v1.sz := by rw [TValue.sz_eq]; omega
    rcases hz1 with rfl | ⟨a3,rfl,hz1,hl1⟩
    · simp [e0,e2,e6,e9,e10,e11,e12,retO,arrO,putA,-Int.natCast_add]
      exact fail fun o ho => by simp only [List.mem_cons,List.not_mem_nil,or_false] at ho; rcases ho with h | h | h | h | h <;> simp [h]
    have hnn3 : ¬ ((a3 : Int) < 0) := by omega
    simp [e0,e2,e6,e9,e10,e11,e12,hnn3,retO,arrO,putA,-Int.natCast_add]
    refine call_fn0 (l1In_fn _ _ _) .bool fun _ _ => ?_
    cases hin1 : inR v1.Kind 2 3
    · simp [e0,e2,e6,e9,e10,e11,e12,hnn3,retO,arrO,putA,-Int.natCast_add]
      exact fail fun o ho => by simp only [List.mem_cons,List.not_mem_nil,or_false] at ho; rcases ho with h | h | h | h | h <;> simp [h]
    simp [e0,e2,e6,e9,e10,e11,e12,hnn3,hdw,retO,arrO,putA,-Int.natCast_add]
    refine call_tree0 (ih hd2 a3 hl1) fun r c5 hc5 ⟨v2,n2,hr,hk2,hi2,hz2,_,_⟩ hF2 => ?_
    subst hr
    have hst := stepQ v1 v2 n2 ⟨decide (v1.Kind = 3),v1.Num,v1.Str⟩ a3 hs1 hz1 hz2
    have hvF : From c (.agg v2.enc) := (from_tup_mem9 hF2).mono (by omega)
    simp [e0,e2,e6,e9,e10,e11,e12,hnn3,hg1,hg2,retO,arrO,putA,-Int.natCast_add]
    exact hN _ _ (List.take 7 _) _ hk200 (List.take_sublist 7 _) ⟨L ++ [(⟨decide (v1.Kind = 3),v1.Num,v1.Str⟩,v2)],_,_,n2,rfl,.inr ⟨_,_,_,_,_,_,_,(by omega),rfl,by simp,rfl,by simp [encE,TKey.enc]⟩,FL.step hFL hvF,by simp [hLk],hst,by omega,by simp [upd,e0],by simp [upd,e2],by simp [upd,e6],by simp [upd,e9],by simp [upd],by simp [upd,e11],by simp [upd]; exact step64 (n := 200) (by unfold mx; omega) hk200⟩
set_option maxRecDepth 100000
theorem spec_val {s : List UInt8} (hs : s.length ≤ 1048576) : ∀ k d : Nat,d + k = 201 → ∀ a,a ≤ s.length → Tr Tryz.prog 163 [.str s,.int .i64 a,.int .i64 (d : Int)] fun _ r => RvQ s a d r
  | 0,d,hk => fun a ha => spec_val1 hs ha (by omega) fun h => absurd h (by omega)
  | k + 1,d,hk => fun a ha => spec_val1 hs ha (by omega) fun h a ha => spec_val hs k (d + 1) (by omega) a ha
theorem spec_unsR {s : List UInt8} (hs : s.length ≤ 1048576) : Tr Tryz.prog 124 [.str s] fun _ r => UnsR s r := by
  intro c
  refine con_of c124 (by simp [F124]) ?_
  unfold F124
  have fin0 : ∀ {H : List AObj} {c' : Nat},uns s = none → finW (fun r H' _ => H' = [] ∧ UnsR s r ∧ From c r) (.tup [.agg [.int .i64 0,.int .i64 0,.str [],.int .i64 0,.nsl],.bool false]) H c' := fun {H c'} h => by
    have e := mkV_enc 0 0 []
    refine fin_plain ⟨rfl,⟨mkV 0 0 [],false,by rw [e],⟨fun w hw => (by rw [h] at hw; cases hw),fun _ => .inl rfl,by simp⟩⟩,by rw [← e]; exact from_kb _ rfl _ _⟩
  simp [putA]
  refine call_tree0 (spec_val hs 201 0 (by omega) 0 (by omega)) fun r c1 hc1 ⟨v,nx,hr,hk,hI,hz,hex,hex2⟩ hF => ?_
  subst hr
  have none_of : (∀ w,uns s = some w → False) → uns s = none := fun h => by
    cases hu : uns s with
    | none => rfl
    | some w => exact (h w hu).elim
  have hex' : ∀ w,uns s = some w → v = w ∧ nx = s.length := fun w hw => by
    obtain ⟨h1,h2⟩ := uns_some hw
    exact hex w h1 (by omega) (by rw [h2]; rfl)
  by_cases hnx : nx = (s.length : Int)
  rotate_left
  · simp [hnx,putA]
    exact fin0 (none_of fun w hw => hnx (hex' w hw).2)
  have hzl : v.sz ≤ s.length := by
    rcases hz with h | ⟨a',h1,h2,h3⟩
    · omega
    · omega
  subst hnx
  simp [putA]
  refine call_fn0 (spec_isVal (v := v) (by omega)) .bool fun _ _ => ?_
  cases hv : isVal v
  · simp [putA]
    exact fin0 (none_of fun w hw => by
      have := (uns_some hw).1.1
      rw [← (hex' w hw).1,hv] at this
      cases this)
  · simp [putA]
    refine fin_plain ⟨rfl,⟨v,true,rfl,⟨fun w hw => ⟨rfl,(hex' w hw).1⟩,fun hu => .inr ?_,fun _ => hzl⟩⟩,from_tup fun a ha => ?_⟩
    · refine Classical.byContradiction fun h4 => uns_none hu (w := v) ⟨hv,?_,hI h4⟩ ?_
      · simp only [inR,Bool.and_eq_true,decide_eq_true_eq]
        omega
      · exact (hex2 h4 rfl hv).symm
    · simp at ha
      rcases ha with rfl | rfl
      · exact fun T hT => (from_tup_mem9 hF) T fun t ht => Nat.lt_of_lt_of_le (hT t ht) (by omega)
      · simp
theorem spec_uns (s : List UInt8) (hs : s.length ≤ 1048576) : Tr Tryz.prog 124 [.str s] fun _ r => ∃ (v : TValue) (ok : Bool),r = .tup [.agg v.enc,.bool ok] ∧ UserQ s v ok := spec_unsR hs
end A
end Go.Proofs.YtgalkppgeoknaaaGreatDoor
