import Derived.Test.YtgalkppgeoknaaaGreatDoorB10

/-
  Images read: classes, the program. No condition.
-/
set_option linter.unusedVariables false
set_option linter.unusedSimpArgs false
namespace Go.Proofs.YtgalkppgeoknaaaGreatDoor
namespace A
set_option linter.unusedVariables false
set_option linter.unusedSimpArgs false
set_option maxRecDepth 100000
def retC (c : Nat) : AObj := ⟨false,c,4,[[.str [],.str [],.nsl,.nsl]]⟩
def clO (tf : Nat) (n q : List UInt8) (X Y : AV) : AObj := ⟨false,tf,4,[[.str n,.str q,X,Y]]⟩
def FldAt (X : AV) (L : List TField) (M : List AObj) : Prop := (L = [] ∧ X = .nsl ∧ M = []) ∨ ∃ o1 o2 o3 ts rows n,X = .ref 6 ts 8 n ∧ n = L.length ∧ M = [o1,o2,o3,⟨false,ts,8,rows⟩] ∧ rows = L.map TField.enc
def MetAt (p : Nat) (Y : AV) (L : List TMethod) (M : List AObj) : Prop := (L = [] ∧ Y = .nsl ∧ M = []) ∨ ∃ o1 o2 ts rows n,Y = .ref (p + 2) ts 5 n ∧ n = L.length ∧ M = [o1,o2,⟨false,ts,5,rows⟩] ∧ rows = L.map TMethod.enc
def clsInn (k : TClass) : List AObj := k.Fields.wood 8 TField.enc noInn ++ k.Methods.wood 5 TMethod.enc noInn
theorem fin_cl {c' p : Nat} {o1 x y : AObj} {nm q : List UInt8} {X Y : AV} {Lf : List TField} {Lm : List TMethod} {M C : List AObj} {Q : AObj → TClass → Prop} (hX : FldAt X Lf M) (hY : MetAt p Y Lm C) (hQ : ∀ (SF : SL TField) (SM : SL TMethod),SF.list = Lf → SM.list = Lm → Q o1 ⟨nm,q,SF,SM⟩) :
    finW (fun r O _ => ∃ o' k,r = .agg (TClass.encO k) ∧ O = o' :: clsInn k ∧ Q o' k) (.agg [.str nm,.str q,X,Y]) (o1 :: x :: y :: (M ++ C)) c' := by
  have go : ∀ (S : SL TField) (D : SL TMethod),S.list = Lf → D.list = Lm → (S.wood 8 TField.enc noInn).Sublist M → (D.wood 5 TMethod.enc noInn).Sublist C → View [] X (S.ref 8) → View [] Y (D.ref 5) → finW (fun r O _ => ∃ o' k,r = .agg (TClass.encO k) ∧ O = o' :: clsInn k ∧ Q o' k) (.agg [.str nm,.str q,X,Y]) (o1 :: x :: y :: (M ++ C)) c' := fun S D hS hD sM sC vX vY => by
    refine ⟨[],o1 :: clsInn ⟨nm,q,S,D⟩,o1 :: clsInn ⟨nm,q,S,D⟩,.agg (TClass.encO ⟨nm,q,S,D⟩),.cons_cons _ (.cons _ (.cons _ (sM.append sC))),.refl _ _,by simp,by simp [tags],?_,o1,⟨nm,q,S,D⟩,rfl,rfl,hQ S D hS hD⟩
    refine viewG (.cons (.refl _) (.cons (.refl _) (.cons vX (.cons vY .nil)))) fun a ha => ?_
    simp [TClass.encO] at ha
    rcases ha with rfl | rfl | rfl | rfl <;> first | rfl | exact cell_rfG _ _
  rcases hX with ⟨rfl,rfl,rfl⟩ | ⟨x1,x2,x3,ts,rows,n,rfl,rfl,rfl,rfl⟩ <;> rcases hY with ⟨rfl,rfl,rfl⟩ | ⟨y1,y2,tc,rows2,n2,rfl,rfl,rfl,rfl⟩
  · exact go .nil .nil rfl rfl (.refl _) (.refl _) (.refl _) (.refl _)
  · exact go .nil (.mk tc Lm) rfl rfl (.refl _) (by simp [SL.wood,wood_flat]) (.refl _) .name
  · exact go (.mk ts Lf) .nil rfl rfl (by simp [SL.wood,wood_flat]) (.refl _) .name (.refl _)
  · exact go (.mk ts Lf) (.mk tc Lm) rfl rfl (by simp [SL.wood,wood_flat]) (by simp [SL.wood,wood_flat]) .name .name
theorem rText_le {s : SL UInt8} (hl : s.list.length ≤ 1048576) (σ : RSt) : (rText s.list σ).1.length ≤ 1048576 := by
  cases σ with
  | none => simp [rText]
  | some a =>
    cases hn : rdT s.list a with
    | none => simp [rText,hn]
    | some q =>
      have := rdT_bnd hn
      simp [rText,hn]
      omega
set_option maxHeartbeats 8000000 in
theorem ir_class (hU : ∀ x : List UInt8,x.length ≤ 1048576 → Tr Tryz.prog 129 [.str x] fun _ r => ∃ (v : TValue) (ok : Bool),r = .tup [.agg v.enc,.bool ok] ∧ UserQ x v ok)
    {s : SL UInt8} {t : Nat} {σ : RSt} {o : AObj} (hl : s.list.length ≤ 1048576) (ho : ObI s t σ o) (c : Nat) : Con Tryz.prog 81 [.ptr 0 t 3 0 0] [o] c fun r O _ => ∃ o' k,r = .agg (TClass.encO k) ∧ O = o' :: clsInn k ∧ (∃ σ',ObI s t σ' o' ∧ ClsQ s.list σ k σ') := by
  refine con_of c81 (by simp [F81]) ?_
  unfold F81
  have hof : ∀ {L : List TField} {σF : RSt},FldF (rList s.list (rField s.list) (rText s.list (rText s.list σ).2).2) (rNum s.list (rText s.list (rText s.list σ).2).2).2 L σF → ∀ (SF : SL TField) (SM : SL TMethod),SF.list = L → SM.list = (rList s.list (rMet s.list) σF).1 → ClsQ s.list σ ⟨(rText s.list σ).1,(rText s.list (rText s.list σ).2).1,SF,SM⟩ (rList s.list (rMet s.list) σF).2 := fun h SF SM h1 h2 => ClsQ.of h h1 h2
  rw [irW_assoc,irW_assoc,irW_assoc]
  refine seq_cut (fun e H c' => ∃ (o5 : AObj) (X : AV) (M : List AObj) (tf : Nat) (L : List TField) (σF : RSt),ObI s t σF o5 ∧ FldAt X L M ∧ FldF (rList s.list (rField s.list) (rText s.list (rText s.list σ).2).2) (rNum s.list (rText s.list (rText s.list σ).2).2).2 L σF ∧ e 0 = .ptr 0 t 3 0 0 ∧ e 2 = .ptr 1 c 4 0 0 ∧ e 3 = .ptr 2 tf 4 0 0 ∧
    H = o5 :: retC c :: clO tf (rText s.list σ).1 (rText s.list (rText s.list σ).2).1 X .nsl :: M) ?_ ?_
  rotate_left
  · intro K hK
    clear hof
    simp
    refine call_ir (i := 0) rfl ho .str (ir_text hl ho _) fun o1 c1 hc1 ho1 => ?_
    simp [putA]
    refine call_ir (i := 0) rfl ho1 .str (ir_text hl ho1 _) fun o2 c2 hc2 ho2 => ?_
    simp [putA]
    generalize (rText s.list (rText s.list σ).2).1 = qn at *
    generalize (rText s.list (rText s.list σ).2).2 = σ3 at *
    generalize (rText s.list σ).1 = nm at *
    refine call_ir (i := 0) rfl ho2 .int (ir_num hl ho2 _) fun o4 c4 _ ho4 => ?_
    have hR : rList s.list (rField s.list) σ3 = rRep (rField s.list) (rNum s.list σ3).1 (rNum s.list σ3).2 := rfl
    have hnb : (rNum s.list σ3).1 ≤ 1000000000000 := rNum_le s.list σ3
    generalize (rNum s.list σ3).1 = n0 at hR hnb
    generalize (rNum s.list σ3).2 = σ0 at *
    simp
    refine loop_drop n0 (fun k e H c' => ∃ (L : List TField) (m : Nat) (σ1 : RSt) (o1 : AObj) (X : AV) (M : List AObj),m = n0 - k ∧ ObI s t σ1 o1 ∧ FldI (rList s.list (rField s.list) σ3) (rField s.list) σ0 L m σ1 ∧ FldAt X L M ∧ e 0 = .ptr 0 t 3 0 0 ∧ e 2 = .ptr 1 c 4 0 0 ∧ e 3 = .ptr 2 c1 4 0 0 ∧ e 4 = .int .i64 m ∧ H = o1 :: retC c :: clO c1 nm qn X .nsl :: M) ⟨[],n0,σ0,o4,.nsl,[],by omega,ho4,by rw [hR]; exact FldI.nil,.inl ⟨rfl,rfl,rfl⟩,by simp [upd],by simp [upd],by simp [upd],by simp [upd],rfl⟩ ?_
    intro k e H c' hk ⟨L,m,σ1,o1,X,M,hm,ho1,hL,hX,e0,e2,e3,e4,hH⟩ N hN
    subst hH
    by_cases hm0 : m = 0
    · subst hm0
      simp [e0,e3,e4]
      exact hK _ _ _ ⟨o1,X,M,c1,L,σ1,ho1,hX,hL.fin0,by simp [upd,e0],by simp [upd,e2],by simp [upd,e3],rfl⟩
    have hmp : (0 : Int) < (m : Int) := by omega
    have hmp' : 0 < m := by omega
    have ho1' := ho1
    obtain ⟨a,b,rfl,ha,hσ⟩ := ho1'
    rcases hσ with ⟨rfl,rfl⟩ | ⟨rfl,rfl⟩
    rotate_left
    · simp [e0,e3,e4,hmp,hmp',irO]
      exact hK _ _ _ ⟨irO s t a true,X,M,c1,L,none,ho1,hX,hL.finN,by simp [upd,e0],by simp [upd,e2],by simp [upd,e3],rfl⟩
    have hLa := hL.len
    have hw : IntKind.i64.wrap ((m : Int) - 1) = ((m - 1 : Nat) : Int) := by rw [wrap64 (by omega) (by omega)]; omega
    have hg1 : (L.length + 1) * 104 ≤ 140737488355328 := by omega
    have hg2 : L.length + 1 ≤ mx := by unfold mx; omega
    rcases hX with ⟨rfl,rfl,rfl⟩ | ⟨z1,z2,z3,ts,rows,n,rfl,rfl,rfl,rfl⟩
    · simp [e0,e2,e3,e4,hmp,hmp',irO,retC,clO]
      refine call_ir (o := irO s t a false) (i := 0) rfl ho1 .str (ir_text hl ho1 _) fun o2 c2 _ ho2 => ?_
      simp [e0,e2,e3,e4,putA]
      refine call_ir (i := 0) rfl ho2 .str (ir_text hl ho2 _) fun o3 c3 _ ho3 => ?_
      simp [e0,e2,e3,e4,putA]
      refine call_ir (i := 0) rfl ho3 .bool (ir_flag hl ho3 _) fun o4 c4 _ ho4 => ?_
      simp [e0,e2,e3,e4,putA]
      refine call_ir (i := 0) rfl ho4 .str (ir_text hl ho4 _) fun o5 c5 _ ho5 => ?_
      simp [e0,e2,e3,e4,putA]
      refine call_tree0 (hU _ (rText_le hl _)) fun r c6 hc6 ⟨v,ok,hr,hq⟩ hf => ?_
      subst hr
      have hst := hL.step (k := m - 1) (by omega) hq
      clear hq
      generalize (rText s.list (rFlag s.list (rText s.list (rText s.list (some a)).2).2).2).2 = σ5 at *
      generalize (rFlag s.list (rText s.list (rText s.list (some a)).2).2).1 = x3 at *
      generalize (rText s.list (rText s.list (some a)).2).1 = x2 at *
      generalize (rText s.list (some a)).1 = x1 at *
      obtain ⟨a5,b5,rfl,ha5,hσ5⟩ := ho5
      rcases hσ5 with ⟨rfl,rfl⟩ | ⟨rfl,rfl⟩ <;> cases ok <;>
      ( simp [e0,e2,e3,e4,hw,hg1,hg2,putA,irO]
        exact ⟨by unfold mx; omega,hN _ _ (List.take 7 _) _ (by omega) (List.take_sublist 7 _) ⟨_,m - 1,_,_,_,_,by omega,(by first | exact ⟨a5,false,rfl,ha5,.inl ⟨rfl,rfl⟩⟩ | exact ⟨a5,true,rfl,ha5,.inr ⟨rfl,rfl⟩⟩),hst,.inr ⟨_,_,_,_,_,_,rfl,by simp,rfl,by simp [TField.enc,TValue.enc_eq]⟩,by simp [upd,e0],by simp [upd,e2],by simp [upd,e3],by simp [upd],rfl⟩⟩ )
    · simp [e0,e2,e3,e4,hmp,hmp',irO,retC,clO]
      refine call_ir (o := irO s t a false) (i := 0) rfl ho1 .str (ir_text hl ho1 _) fun o2 c2 _ ho2 => ?_
      simp [e0,e2,e3,e4,putA]
      refine call_ir (i := 0) rfl ho2 .str (ir_text hl ho2 _) fun o3 c3 _ ho3 => ?_
      simp [e0,e2,e3,e4,putA]
      refine call_ir (i := 0) rfl ho3 .bool (ir_flag hl ho3 _) fun o4 c4 _ ho4 => ?_
      simp [e0,e2,e3,e4,putA]
      refine call_ir (i := 0) rfl ho4 .str (ir_text hl ho4 _) fun o5 c5 _ ho5 => ?_
      simp [e0,e2,e3,e4,putA]
      refine call_tree0 (hU _ (rText_le hl _)) fun r c6 hc6 ⟨v,ok,hr,hq⟩ hf => ?_
      subst hr
      have hst := hL.step (k := m - 1) (by omega) hq
      clear hq
      generalize (rText s.list (rFlag s.list (rText s.list (rText s.list (some a)).2).2).2).2 = σ5 at *
      generalize (rFlag s.list (rText s.list (rText s.list (some a)).2).2).1 = x3 at *
      generalize (rText s.list (rText s.list (some a)).2).1 = x2 at *
      generalize (rText s.list (some a)).1 = x1 at *
      obtain ⟨a5,b5,rfl,ha5,hσ5⟩ := ho5
      rcases hσ5 with ⟨rfl,rfl⟩ | ⟨rfl,rfl⟩ <;> cases ok <;>
      ( simp [e0,e2,e3,e4,hw,hg1,hg2,putA,irO]
        exact hN _ _ (List.take 7 _) _ (by omega) (List.take_sublist 7 _) ⟨_,m - 1,_,_,_,_,by omega,(by first | exact ⟨a5,false,rfl,ha5,.inl ⟨rfl,rfl⟩⟩ | exact ⟨a5,true,rfl,ha5,.inr ⟨rfl,rfl⟩⟩),hst,.inr ⟨_,_,_,_,_,_,rfl,by simp,rfl,by simp [TField.enc,TValue.enc_eq]⟩,by simp [upd,e0],by simp [upd,e2],by simp [upd,e3],by simp [upd],rfl⟩ )
  · intro e H c' ⟨o5,X,M,tf,Lf,σF,ho5,hX,hF,e0,e2,e3,hH⟩
    subst hH
    replace hof := hof hF
    generalize (rText s.list (rText s.list σ).2).1 = qn at *
    generalize (rText s.list σ).1 = nm at *
    rcases hX with ⟨rfl,rfl,rfl⟩ | ⟨z1,z2,z3,ts,rows,n,rfl,rfl,rfl,rfl⟩
    · simp [e0,e2,e3,retC,clO]
      refine call_ir (i := 0) rfl ho5 .int (ir_num hl ho5 _) fun o7 c7 _ ho7 => ?_
      have hR : rList s.list (rMet s.list) σF = rRep (rMet s.list) (rNum s.list σF).1 (rNum s.list σF).2 := rfl
      have hnb : (rNum s.list σF).1 ≤ 1000000000000 := rNum_le s.list σF
      generalize (rNum s.list σF).1 = n0 at hR hnb
      generalize (rNum s.list σF).2 = σ0 at hR ho7
      simp [e0,e2,e3]
      refine loop_drop n0 (fun k e H c' => ∃ (L : List TMethod) (m : Nat) (σ1 : RSt) (o1 : AObj) (Y : AV) (C : List AObj),m = n0 - k ∧ ObI s t σ1 o1 ∧ RepAt (rMet s.list) (rList s.list (rMet s.list) σF) L m σ1 ∧ MetAt 3 Y L C ∧ e 0 = .ptr 0 t 3 0 0 ∧ e 2 = .ptr 1 c 4 0 0 ∧ e 3 = .ptr 2 tf 4 0 0 ∧ e 8 = .int .i64 m ∧ H = o1 :: retC c :: clO tf nm qn .nsl Y :: ([] ++ C)) ⟨[],n0,σ0,o7,.nsl,[],by omega,ho7,by rw [hR]; exact RepAt.nil,.inl ⟨rfl,rfl,rfl⟩,by simp [upd,e0],by simp [upd,e2],by simp [upd,e3],by simp [upd],rfl⟩ ?_
      clear e0 e2 e3 e
      intro k e H c' hk ⟨L,m,σ1,o1,Y,C,hm,ho1,hL,hY,e0,e2,e3,e8,hH⟩ N hN
      subst hH
      by_cases hm0 : m = 0
      · subst hm0
        have hz := hL.zero
        rw [hz] at hof
        simp [e0,e2,e3,e8,retC,clO,putA]
        exact fin_cl (p := 3) (Q := fun o' k => ∃ σ',ObI s t σ' o' ∧ ClsQ s.list σ k σ') (.inl ⟨rfl,rfl,rfl⟩) hY fun SF SM h1 h2 => ⟨_,ho1,hof SF SM h1 h2⟩
      have hmp : (0 : Int) < (m : Int) := by omega
      have hmp' : 0 < m := by omega
      have ho1' := ho1
      obtain ⟨a,b,rfl,ha,hσ⟩ := ho1'
      rcases hσ with ⟨rfl,rfl⟩ | ⟨rfl,rfl⟩
      rotate_left
      · have hz := hL.none
        rw [hz] at hof
        simp [e0,e2,e3,e8,hmp,hmp',irO,retC,clO,putA]
        exact fin_cl (p := 3) (Q := fun o' k => ∃ σ',ObI s t σ' o' ∧ ClsQ s.list σ k σ') (.inl ⟨rfl,rfl,rfl⟩) hY fun SF SM h1 h2 => ⟨_,ho1,hof SF SM h1 h2⟩
      have hLa := hL.2 a rfl
      have hst := hL.step (cons_met s.list) (n := m - 1) (by omega)
      have hw : IntKind.i64.wrap ((m : Int) - 1) = ((m - 1 : Nat) : Int) := by rw [wrap64 (by omega) (by omega)]; omega
      have hg1 : (L.length + 1) * 56 ≤ 140737488355328 := by omega
      have hg2 : L.length + 1 ≤ mx := by unfold mx; omega
      rcases hY with ⟨rfl,rfl,rfl⟩ | ⟨y1,y2,tc,rows,n,rfl,rfl,rfl,rfl⟩
      · simp [e0,e2,e3,e8,hmp,hmp',irO,retC,clO]
        refine call_ir (o := irO s t a false) (i := 0) rfl ho1 .str (ir_text hl ho1 _) fun o2 c2 _ ho2 => ?_
        simp [e0,e2,e3,e8,putA]
        refine call_ir (i := 0) rfl ho2 .str (ir_text hl ho2 _) fun o3 c3 _ ho3 => ?_
        simp [e0,e2,e3,e8,putA]
        refine call_ir (i := 0) rfl ho3 .str (ir_text hl ho3 _) fun o4 c4 _ ho4 => ?_
        simp [e0,e2,e3,e8,putA]
        refine call_ir (i := 0) rfl ho4 .bool (ir_flag hl ho4 _) fun o5 c5 _ ho5 => ?_
        simp [e0,e2,e3,e8,putA]
        refine call_ir (i := 0) rfl ho5 .bool (ir_flag hl ho5 _) fun o6 c6 _ ho6 => ?_
        simp [e0,e2,e3,e8,hw,hg1,hg2,putA]
        exact ⟨by unfold mx; omega,hN _ _ (List.take 6 _) _ (by omega) (List.take_sublist 6 _) ⟨_,m - 1,_,o6,_,[_,_,_],by omega,ho6,hst,.inr ⟨_,_,_,_,_,rfl,by simp,rfl,by simp [TMethod.enc,rMet]⟩,by simp [upd,e0],by simp [upd,e2],by simp [upd,e3],by simp [upd],rfl⟩⟩
      · simp [e0,e2,e3,e8,hmp,hmp',irO,retC,clO]
        refine call_ir (o := irO s t a false) (i := 0) rfl ho1 .str (ir_text hl ho1 _) fun o2 c2 _ ho2 => ?_
        simp [e0,e2,e3,e8,putA]
        refine call_ir (i := 0) rfl ho2 .str (ir_text hl ho2 _) fun o3 c3 _ ho3 => ?_
        simp [e0,e2,e3,e8,putA]
        refine call_ir (i := 0) rfl ho3 .str (ir_text hl ho3 _) fun o4 c4 _ ho4 => ?_
        simp [e0,e2,e3,e8,putA]
        refine call_ir (i := 0) rfl ho4 .bool (ir_flag hl ho4 _) fun o5 c5 _ ho5 => ?_
        simp [e0,e2,e3,e8,putA]
        refine call_ir (i := 0) rfl ho5 .bool (ir_flag hl ho5 _) fun o6 c6 _ ho6 => ?_
        simp [e0,e2,e3,e8,hw,hg1,hg2,putA]
        exact hN _ _ (List.take 6 _) _ (by omega) (List.take_sublist 6 _) ⟨_,m - 1,_,o6,_,[_,_,_],by omega,ho6,hst,.inr ⟨_,_,_,_,_,rfl,by simp,rfl,by simp [TMethod.enc,rMet]⟩,by simp [upd,e0],by simp [upd,e2],by simp [upd,e3],by simp [upd],rfl⟩
    · simp [e0,e2,e3,retC,clO]
      refine call_ir (i := 0) rfl ho5 .int (ir_num hl ho5 _) fun o7 c7 _ ho7 => ?_
      have hR : rList s.list (rMet s.list) σF = rRep (rMet s.list) (rNum s.list σF).1 (rNum s.list σF).2 := rfl
      have hnb : (rNum s.list σF).1 ≤ 1000000000000 := rNum_le s.list σF
      generalize (rNum s.list σF).1 = n0 at hR hnb
      generalize (rNum s.list σF).2 = σ0 at hR ho7
      simp [e0,e2,e3]
      refine loop_drop n0 (fun k e H c' => ∃ (L : List TMethod) (m : Nat) (σ1 : RSt) (o1 : AObj) (Y : AV) (C : List AObj),m = n0 - k ∧ ObI s t σ1 o1 ∧ RepAt (rMet s.list) (rList s.list (rMet s.list) σF) L m σ1 ∧ MetAt 7 Y L C ∧ e 0 = .ptr 0 t 3 0 0 ∧ e 2 = .ptr 1 c 4 0 0 ∧ e 3 = .ptr 2 tf 4 0 0 ∧ e 8 = .int .i64 m ∧ H = o1 :: retC c :: clO tf nm qn (.ref 6 ts 8 Lf.length) Y :: ([z1,z2,z3,⟨false,ts,8,Lf.map TField.enc⟩] ++ C)) ⟨[],n0,σ0,o7,.nsl,[],by omega,ho7,by rw [hR]; exact RepAt.nil,.inl ⟨rfl,rfl,rfl⟩,by simp [upd,e0],by simp [upd,e2],by simp [upd,e3],by simp [upd],rfl⟩ ?_
      clear e0 e2 e3 e
      intro k e H c' hk ⟨L,m,σ1,o1,Y,C,hm,ho1,hL,hY,e0,e2,e3,e8,hH⟩ N hN
      subst hH
      by_cases hm0 : m = 0
      · subst hm0
        have hz := hL.zero
        rw [hz] at hof
        simp [e0,e2,e3,e8,retC,clO,putA]
        exact fin_cl (p := 7) (Q := fun o' k => ∃ σ',ObI s t σ' o' ∧ ClsQ s.list σ k σ') (.inr ⟨z1,z2,z3,ts,_,_,rfl,rfl,rfl,rfl⟩) hY fun SF SM h1 h2 => ⟨_,ho1,hof SF SM h1 h2⟩
      have hmp : (0 : Int) < (m : Int) := by omega
      have hmp' : 0 < m := by omega
      have ho1' := ho1
      obtain ⟨a,b,rfl,ha,hσ⟩ := ho1'
      rcases hσ with ⟨rfl,rfl⟩ | ⟨rfl,rfl⟩
      rotate_left
      · have hz := hL.none
        rw [hz] at hof
        simp [e0,e2,e3,e8,hmp,hmp',irO,retC,clO,putA]
        exact fin_cl (p := 7) (Q := fun o' k => ∃ σ',ObI s t σ' o' ∧ ClsQ s.list σ k σ') (.inr ⟨z1,z2,z3,ts,_,_,rfl,rfl,rfl,rfl⟩) hY fun SF SM h1 h2 => ⟨_,ho1,hof SF SM h1 h2⟩
      have hLa := hL.2 a rfl
      have hst := hL.step (cons_met s.list) (n := m - 1) (by omega)
      have hw : IntKind.i64.wrap ((m : Int) - 1) = ((m - 1 : Nat) : Int) := by rw [wrap64 (by omega) (by omega)]; omega
      have hg1 : (L.length + 1) * 56 ≤ 140737488355328 := by omega
      have hg2 : L.length + 1 ≤ mx := by unfold mx; omega
      rcases hY with ⟨rfl,rfl,rfl⟩ | ⟨y1,y2,tc,rows,n,rfl,rfl,rfl,rfl⟩
      · simp [e0,e2,e3,e8,hmp,hmp',irO,retC,clO]
        refine call_ir (o := irO s t a false) (i := 0) rfl ho1 .str (ir_text hl ho1 _) fun o2 c2 _ ho2 => ?_
        simp [e0,e2,e3,e8,putA]
        refine call_ir (i := 0) rfl ho2 .str (ir_text hl ho2 _) fun o3 c3 _ ho3 => ?_
        simp [e0,e2,e3,e8,putA]
        refine call_ir (i := 0) rfl ho3 .str (ir_text hl ho3 _) fun o4 c4 _ ho4 => ?_
        simp [e0,e2,e3,e8,putA]
        refine call_ir (i := 0) rfl ho4 .bool (ir_flag hl ho4 _) fun o5 c5 _ ho5 => ?_
        simp [e0,e2,e3,e8,putA]
        refine call_ir (i := 0) rfl ho5 .bool (ir_flag hl ho5 _) fun o6 c6 _ ho6 => ?_
        simp [e0,e2,e3,e8,hw,hg1,hg2,putA]
        exact ⟨by unfold mx; omega,hN _ _ (List.take 10 _) _ (by omega) (List.take_sublist 10 _) ⟨_,m - 1,_,o6,_,[_,_,_],by omega,ho6,hst,.inr ⟨_,_,_,_,_,rfl,by simp,rfl,by simp [TMethod.enc,rMet]⟩,by simp [upd,e0],by simp [upd,e2],by simp [upd,e3],by simp [upd],rfl⟩⟩
      · simp [e0,e2,e3,e8,hmp,hmp',irO,retC,clO]
        refine call_ir (o := irO s t a false) (i := 0) rfl ho1 .str (ir_text hl ho1 _) fun o2 c2 _ ho2 => ?_
        simp [e0,e2,e3,e8,putA]
        refine call_ir (i := 0) rfl ho2 .str (ir_text hl ho2 _) fun o3 c3 _ ho3 => ?_
        simp [e0,e2,e3,e8,putA]
        refine call_ir (i := 0) rfl ho3 .str (ir_text hl ho3 _) fun o4 c4 _ ho4 => ?_
        simp [e0,e2,e3,e8,putA]
        refine call_ir (i := 0) rfl ho4 .bool (ir_flag hl ho4 _) fun o5 c5 _ ho5 => ?_
        simp [e0,e2,e3,e8,putA]
        refine call_ir (i := 0) rfl ho5 .bool (ir_flag hl ho5 _) fun o6 c6 _ ho6 => ?_
        simp [e0,e2,e3,e8,hw,hg1,hg2,putA]
        exact hN _ _ (List.take 10 _) _ (by omega) (List.take_sublist 10 _) ⟨_,m - 1,_,o6,_,[_,_,_],by omega,ho6,hst,.inr ⟨_,_,_,_,_,rfl,by simp,rfl,by simp [TMethod.enc,rMet]⟩,by simp [upd,e0],by simp [upd,e2],by simp [upd,e3],by simp [upd],rfl⟩
set_option maxRecDepth 100000
set_option maxHeartbeats 8000000 in
theorem os_class (hU : ∀ x : List UInt8,x.length ≤ 1048576 → Tr Tryz.prog 124 [.str x] fun _ r => ∃ (v : TValue) (ok : Bool),r = .tup [.agg v.enc,.bool ok] ∧ UserQ x v ok)
    {s : SL UInt8} {t : Nat} {σ : RSt} {o : AObj} (hl : s.list.length ≤ 1048576) (ho : ObS s t σ o) (c : Nat) : Con Tryz.prog 78 [.ptr 0 t 2 0 0] [o] c fun r O _ => ∃ o' k,r = .agg (TClass.encO k) ∧ O = o' :: clsInn k ∧ (∃ σ',ObS s t σ' o' ∧ ClsQ s.list σ k σ') := by
  refine con_of c78 (by simp [F78]) ?_
  unfold F78
  have hof : ∀ {L : List TField} {σF : RSt},FldF (rList s.list (rField s.list) (rText s.list (rText s.list σ).2).2) (rNum s.list (rText s.list (rText s.list σ).2).2).2 L σF → ∀ (SF : SL TField) (SM : SL TMethod),SF.list = L → SM.list = (rList s.list (rMet s.list) σF).1 → ClsQ s.list σ ⟨(rText s.list σ).1,(rText s.list (rText s.list σ).2).1,SF,SM⟩ (rList s.list (rMet s.list) σF).2 := fun h SF SM h1 h2 => ClsQ.of h h1 h2
  rw [irW_assoc,irW_assoc,irW_assoc]
  refine seq_cut (fun e H c' => ∃ (o5 : AObj) (X : AV) (M : List AObj) (tf : Nat) (L : List TField) (σF : RSt),ObS s t σF o5 ∧ FldAt X L M ∧ FldF (rList s.list (rField s.list) (rText s.list (rText s.list σ).2).2) (rNum s.list (rText s.list (rText s.list σ).2).2).2 L σF ∧ e 0 = .ptr 0 t 2 0 0 ∧ e 2 = .ptr 1 c 4 0 0 ∧ e 3 = .ptr 2 tf 4 0 0 ∧
    H = o5 :: retC c :: clO tf (rText s.list σ).1 (rText s.list (rText s.list σ).2).1 X .nsl :: M) ?_ ?_
  rotate_left
  · intro K hK
    clear hof
    simp
    refine call_os (i := 0) rfl ho .str (os_text hl ho _) fun o1 c1 hc1 ho1 => ?_
    simp [putA]
    refine call_os (i := 0) rfl ho1 .str (os_text hl ho1 _) fun o2 c2 hc2 ho2 => ?_
    simp [putA]
    generalize (rText s.list (rText s.list σ).2).1 = qn at *
    generalize (rText s.list (rText s.list σ).2).2 = σ3 at *
    generalize (rText s.list σ).1 = nm at *
    refine call_os (i := 0) rfl ho2 .int (os_num hl ho2 _) fun o4 c4 _ ho4 => ?_
    have hR : rList s.list (rField s.list) σ3 = rRep (rField s.list) (rNum s.list σ3).1 (rNum s.list σ3).2 := rfl
    have hnb : (rNum s.list σ3).1 ≤ 1000000000000 := rNum_le s.list σ3
    generalize (rNum s.list σ3).1 = n0 at hR hnb
    generalize (rNum s.list σ3).2 = σ0 at *
    simp
    refine loop_drop n0 (fun k e H c' => ∃ (L : List TField) (m : Nat) (σ1 : RSt) (o1 : AObj) (X : AV) (M : List AObj),m = n0 - k ∧ ObS s t σ1 o1 ∧ FldI (rList s.list (rField s.list) σ3) (rField s.list) σ0 L m σ1 ∧ FldAt X L M ∧ e 0 = .ptr 0 t 2 0 0 ∧ e 2 = .ptr 1 c 4 0 0 ∧ e 3 = .ptr 2 c1 4 0 0 ∧ e 4 = .int .i64 m ∧ H = o1 :: retC c :: clO c1 nm qn X .nsl :: M) ⟨[],n0,σ0,o4,.nsl,[],by omega,ho4,by rw [hR]; exact FldI.nil,.inl ⟨rfl,rfl,rfl⟩,by simp [upd],by simp [upd],by simp [upd],by simp [upd],rfl⟩ ?_
    intro k e H c' hk ⟨L,m,σ1,o1,X,M,hm,ho1,hL,hX,e0,e2,e3,e4,hH⟩ N hN
    subst hH
    by_cases hm0 : m = 0
    · subst hm0
      simp [e0,e3,e4]
      exact hK _ _ _ ⟨o1,X,M,c1,L,σ1,ho1,hX,hL.fin0,by simp [upd,e0],by simp [upd,e2],by simp [upd,e3],rfl⟩
    have hmp : (0 : Int) < (m : Int) := by omega
    have hmp' : 0 < m := by omega
    have ho1' := ho1
    obtain ⟨a,b,rfl,ha,hσ⟩ := ho1'
    rcases hσ with ⟨rfl,rfl⟩ | ⟨rfl,rfl⟩
    rotate_left
    · simp [e0,e3,e4,hmp,hmp',osO]
      exact hK _ _ _ ⟨osO s t a true,X,M,c1,L,none,ho1,hX,hL.finN,by simp [upd,e0],by simp [upd,e2],by simp [upd,e3],rfl⟩
    have hLa := hL.len
    have hw : IntKind.i64.wrap ((m : Int) - 1) = ((m - 1 : Nat) : Int) := by rw [wrap64 (by omega) (by omega)]; omega
    have hg1 : (L.length + 1) * 104 ≤ 140737488355328 := by omega
    have hg2 : L.length + 1 ≤ mx := by unfold mx; omega
    rcases hX with ⟨rfl,rfl,rfl⟩ | ⟨z1,z2,z3,ts,rows,n,rfl,rfl,rfl,rfl⟩
    · simp [e0,e2,e3,e4,hmp,hmp',osO,retC,clO]
      refine call_os (o := osO s t a false) (i := 0) rfl ho1 .str (os_text hl ho1 _) fun o2 c2 _ ho2 => ?_
      simp [e0,e2,e3,e4,putA]
      refine call_os (i := 0) rfl ho2 .str (os_text hl ho2 _) fun o3 c3 _ ho3 => ?_
      simp [e0,e2,e3,e4,putA]
      refine call_os (i := 0) rfl ho3 .bool (os_flag hl ho3 _) fun o4 c4 _ ho4 => ?_
      simp [e0,e2,e3,e4,putA]
      refine call_os (i := 0) rfl ho4 .str (os_text hl ho4 _) fun o5 c5 _ ho5 => ?_
      simp [e0,e2,e3,e4,putA]
      refine call_tree0 (hU _ (rText_le hl _)) fun r c6 hc6 ⟨v,ok,hr,hq⟩ hf => ?_
      subst hr
      have hst := hL.step (k := m - 1) (by omega) hq
      clear hq
      generalize (rText s.list (rFlag s.list (rText s.list (rText s.list (some a)).2).2).2).2 = σ5 at *
      generalize (rFlag s.list (rText s.list (rText s.list (some a)).2).2).1 = x3 at *
      generalize (rText s.list (rText s.list (some a)).2).1 = x2 at *
      generalize (rText s.list (some a)).1 = x1 at *
      obtain ⟨a5,b5,rfl,ha5,hσ5⟩ := ho5
      rcases hσ5 with ⟨rfl,rfl⟩ | ⟨rfl,rfl⟩ <;> cases ok <;>
      ( simp [e0,e2,e3,e4,hw,hg1,hg2,putA,osO]
        exact ⟨by unfold mx; omega,hN _ _ (List.take 7 _) _ (by omega) (List.take_sublist 7 _) ⟨_,m - 1,_,_,_,_,by omega,(by first | exact ⟨a5,false,rfl,ha5,.inl ⟨rfl,rfl⟩⟩ | exact ⟨a5,true,rfl,ha5,.inr ⟨rfl,rfl⟩⟩),hst,.inr ⟨_,_,_,_,_,_,rfl,by simp,rfl,by simp [TField.enc,TValue.enc_eq]⟩,by simp [upd,e0],by simp [upd,e2],by simp [upd,e3],by simp [upd],rfl⟩⟩ )
    · simp [e0,e2,e3,e4,hmp,hmp',osO,retC,clO]
      refine call_os (o := osO s t a false) (i := 0) rfl ho1 .str (os_text hl ho1 _) fun o2 c2 _ ho2 => ?_
      simp [e0,e2,e3,e4,putA]
      refine call_os (i := 0) rfl ho2 .str (os_text hl ho2 _) fun o3 c3 _ ho3 => ?_
      simp [e0,e2,e3,e4,putA]
      refine call_os (i := 0) rfl ho3 .bool (os_flag hl ho3 _) fun o4 c4 _ ho4 => ?_
      simp [e0,e2,e3,e4,putA]
      refine call_os (i := 0) rfl ho4 .str (os_text hl ho4 _) fun o5 c5 _ ho5 => ?_
      simp [e0,e2,e3,e4,putA]
      refine call_tree0 (hU _ (rText_le hl _)) fun r c6 hc6 ⟨v,ok,hr,hq⟩ hf => ?_
      subst hr
      have hst := hL.step (k := m - 1) (by omega) hq
      clear hq
      generalize (rText s.list (rFlag s.list (rText s.list (rText s.list (some a)).2).2).2).2 = σ5 at *
      generalize (rFlag s.list (rText s.list (rText s.list (some a)).2).2).1 = x3 at *
      generalize (rText s.list (rText s.list (some a)).2).1 = x2 at *
      generalize (rText s.list (some a)).1 = x1 at *
      obtain ⟨a5,b5,rfl,ha5,hσ5⟩ := ho5
      rcases hσ5 with ⟨rfl,rfl⟩ | ⟨rfl,rfl⟩ <;> cases ok <;>
      ( simp [e0,e2,e3,e4,hw,hg1,hg2,putA,osO]
        exact hN _ _ (List.take 7 _) _ (by omega) (List.take_sublist 7 _) ⟨_,m - 1,_,_,_,_,by omega,(by first | exact ⟨a5,false,rfl,ha5,.inl ⟨rfl,rfl⟩⟩ | exact ⟨a5,true,rfl,ha5,.inr ⟨rfl,rfl⟩⟩),hst,.inr ⟨_,_,_,_,_,_,rfl,by simp,rfl,by simp [TField.enc,TValue.enc_eq]⟩,by simp [upd,e0],by simp [upd,e2],by simp [upd,e3],by simp [upd],rfl⟩ )
  · intro e H c' ⟨o5,X,M,tf,Lf,σF,ho5,hX,hF,e0,e2,e3,hH⟩
    subst hH
    replace hof := hof hF
    generalize (rText s.list (rText s.list σ).2).1 = qn at *
    generalize (rText s.list σ).1 = nm at *
    rcases hX with ⟨rfl,rfl,rfl⟩ | ⟨z1,z2,z3,ts,rows,n,rfl,rfl,rfl,rfl⟩
    · simp [e0,e2,e3,retC,clO]
      refine call_os (i := 0) rfl ho5 .int (os_num hl ho5 _) fun o7 c7 _ ho7 => ?_
      have hR : rList s.list (rMet s.list) σF = rRep (rMet s.list) (rNum s.list σF).1 (rNum s.list σF).2 := rfl
      have hnb : (rNum s.list σF).1 ≤ 1000000000000 := rNum_le s.list σF
      generalize (rNum s.list σF).1 = n0 at hR hnb
      generalize (rNum s.list σF).2 = σ0 at hR ho7
      simp [e0,e2,e3]
      refine loop_drop n0 (fun k e H c' => ∃ (L : List TMethod) (m : Nat) (σ1 : RSt) (o1 : AObj) (Y : AV) (C : List AObj),m = n0 - k ∧ ObS s t σ1 o1 ∧ RepAt (rMet s.list) (rList s.list (rMet s.list) σF) L m σ1 ∧ MetAt 3 Y L C ∧ e 0 = .ptr 0 t 2 0 0 ∧ e 2 = .ptr 1 c 4 0 0 ∧ e 3 = .ptr 2 tf 4 0 0 ∧ e 8 = .int .i64 m ∧ H = o1 :: retC c :: clO tf nm qn .nsl Y :: ([] ++ C)) ⟨[],n0,σ0,o7,.nsl,[],by omega,ho7,by rw [hR]; exact RepAt.nil,.inl ⟨rfl,rfl,rfl⟩,by simp [upd,e0],by simp [upd,e2],by simp [upd,e3],by simp [upd],rfl⟩ ?_
      clear e0 e2 e3 e
      intro k e H c' hk ⟨L,m,σ1,o1,Y,C,hm,ho1,hL,hY,e0,e2,e3,e8,hH⟩ N hN
      subst hH
      by_cases hm0 : m = 0
      · subst hm0
        have hz := hL.zero
        rw [hz] at hof
        simp [e0,e2,e3,e8,retC,clO,putA]
        exact fin_cl (p := 3) (Q := fun o' k => ∃ σ',ObS s t σ' o' ∧ ClsQ s.list σ k σ') (.inl ⟨rfl,rfl,rfl⟩) hY fun SF SM h1 h2 => ⟨_,ho1,hof SF SM h1 h2⟩
      have hmp : (0 : Int) < (m : Int) := by omega
      have hmp' : 0 < m := by omega
      have ho1' := ho1
      obtain ⟨a,b,rfl,ha,hσ⟩ := ho1'
      rcases hσ with ⟨rfl,rfl⟩ | ⟨rfl,rfl⟩
      rotate_left
      · have hz := hL.none
        rw [hz] at hof
        simp [e0,e2,e3,e8,hmp,hmp',osO,retC,clO,putA]
        exact fin_cl (p := 3) (Q := fun o' k => ∃ σ',ObS s t σ' o' ∧ ClsQ s.list σ k σ') (.inl ⟨rfl,rfl,rfl⟩) hY fun SF SM h1 h2 => ⟨_,ho1,hof SF SM h1 h2⟩
      have hLa := hL.2 a rfl
      have hst := hL.step (cons_met s.list) (n := m - 1) (by omega)
      have hw : IntKind.i64.wrap ((m : Int) - 1) = ((m - 1 : Nat) : Int) := by rw [wrap64 (by omega) (by omega)]; omega
      have hg1 : (L.length + 1) * 56 ≤ 140737488355328 := by omega
      have hg2 : L.length + 1 ≤ mx := by unfold mx; omega
      rcases hY with ⟨rfl,rfl,rfl⟩ | ⟨y1,y2,tc,rows,n,rfl,rfl,rfl,rfl⟩
      · simp [e0,e2,e3,e8,hmp,hmp',osO,retC,clO]
        refine call_os (o := osO s t a false) (i := 0) rfl ho1 .str (os_text hl ho1 _) fun o2 c2 _ ho2 => ?_
        simp [e0,e2,e3,e8,putA]
        refine call_os (i := 0) rfl ho2 .str (os_text hl ho2 _) fun o3 c3 _ ho3 => ?_
        simp [e0,e2,e3,e8,putA]
        refine call_os (i := 0) rfl ho3 .str (os_text hl ho3 _) fun o4 c4 _ ho4 => ?_
        simp [e0,e2,e3,e8,putA]
        refine call_os (i := 0) rfl ho4 .bool (os_flag hl ho4 _) fun o5 c5 _ ho5 => ?_
        simp [e0,e2,e3,e8,putA]
        refine call_os (i := 0) rfl ho5 .bool (os_flag hl ho5 _) fun o6 c6 _ ho6 => ?_
        simp [e0,e2,e3,e8,hw,hg1,hg2,putA]
        exact ⟨by unfold mx; omega,hN _ _ (List.take 6 _) _ (by omega) (List.take_sublist 6 _) ⟨_,m - 1,_,o6,_,[_,_,_],by omega,ho6,hst,.inr ⟨_,_,_,_,_,rfl,by simp,rfl,by simp [TMethod.enc,rMet]⟩,by simp [upd,e0],by simp [upd,e2],by simp [upd,e3],by simp [upd],rfl⟩⟩
      · simp [e0,e2,e3,e8,hmp,hmp',osO,retC,clO]
        refine call_os (o := osO s t a false) (i := 0) rfl ho1 .str (os_text hl ho1 _) fun o2 c2 _ ho2 => ?_
        simp [e0,e2,e3,e8,putA]
        refine call_os (i := 0) rfl ho2 .str (os_text hl ho2 _) fun o3 c3 _ ho3 => ?_
        simp [e0,e2,e3,e8,putA]
        refine call_os (i := 0) rfl ho3 .str (os_text hl ho3 _) fun o4 c4 _ ho4 => ?_
        simp [e0,e2,e3,e8,putA]
        refine call_os (i := 0) rfl ho4 .bool (os_flag hl ho4 _) fun o5 c5 _ ho5 => ?_
        simp [e0,e2,e3,e8,putA]
        refine call_os (i := 0) rfl ho5 .bool (os_flag hl ho5 _) fun o6 c6 _ ho6 => ?_
        simp [e0,e2,e3,e8,hw,hg1,hg2,putA]
        exact hN _ _ (List.take 6 _) _ (by omega) (List.take_sublist 6 _) ⟨_,m - 1,_,o6,_,[_,_,_],by omega,ho6,hst,.inr ⟨_,_,_,_,_,rfl,by simp,rfl,by simp [TMethod.enc,rMet]⟩,by simp [upd,e0],by simp [upd,e2],by simp [upd,e3],by simp [upd],rfl⟩
    · simp [e0,e2,e3,retC,clO]
      refine call_os (i := 0) rfl ho5 .int (os_num hl ho5 _) fun o7 c7 _ ho7 => ?_
      have hR : rList s.list (rMet s.list) σF = rRep (rMet s.list) (rNum s.list σF).1 (rNum s.list σF).2 := rfl
      have hnb : (rNum s.list σF).1 ≤ 1000000000000 := rNum_le s.list σF
      generalize (rNum s.list σF).1 = n0 at hR hnb
      generalize (rNum s.list σF).2 = σ0 at hR ho7
      simp [e0,e2,e3]
      refine loop_drop n0 (fun k e H c' => ∃ (L : List TMethod) (m : Nat) (σ1 : RSt) (o1 : AObj) (Y : AV) (C : List AObj),m = n0 - k ∧ ObS s t σ1 o1 ∧ RepAt (rMet s.list) (rList s.list (rMet s.list) σF) L m σ1 ∧ MetAt 7 Y L C ∧ e 0 = .ptr 0 t 2 0 0 ∧ e 2 = .ptr 1 c 4 0 0 ∧ e 3 = .ptr 2 tf 4 0 0 ∧ e 8 = .int .i64 m ∧ H = o1 :: retC c :: clO tf nm qn (.ref 6 ts 8 Lf.length) Y :: ([z1,z2,z3,⟨false,ts,8,Lf.map TField.enc⟩] ++ C)) ⟨[],n0,σ0,o7,.nsl,[],by omega,ho7,by rw [hR]; exact RepAt.nil,.inl ⟨rfl,rfl,rfl⟩,by simp [upd,e0],by simp [upd,e2],by simp [upd,e3],by simp [upd],rfl⟩ ?_
      clear e0 e2 e3 e
      intro k e H c' hk ⟨L,m,σ1,o1,Y,C,hm,ho1,hL,hY,e0,e2,e3,e8,hH⟩ N hN
      subst hH
      by_cases hm0 : m = 0
      · subst hm0
        have hz := hL.zero
        rw [hz] at hof
        simp [e0,e2,e3,e8,retC,clO,putA]
        exact fin_cl (p := 7) (Q := fun o' k => ∃ σ',ObS s t σ' o' ∧ ClsQ s.list σ k σ') (.inr ⟨z1,z2,z3,ts,_,_,rfl,rfl,rfl,rfl⟩) hY fun SF SM h1 h2 => ⟨_,ho1,hof SF SM h1 h2⟩
      have hmp : (0 : Int) < (m : Int) := by omega
      have hmp' : 0 < m := by omega
      have ho1' := ho1
      obtain ⟨a,b,rfl,ha,hσ⟩ := ho1'
      rcases hσ with ⟨rfl,rfl⟩ | ⟨rfl,rfl⟩
      rotate_left
      · have hz := hL.none
        rw [hz] at hof
        simp [e0,e2,e3,e8,hmp,hmp',osO,retC,clO,putA]
        exact fin_cl (p := 7) (Q := fun o' k => ∃ σ',ObS s t σ' o' ∧ ClsQ s.list σ k σ') (.inr ⟨z1,z2,z3,ts,_,_,rfl,rfl,rfl,rfl⟩) hY fun SF SM h1 h2 => ⟨_,ho1,hof SF SM h1 h2⟩
      have hLa := hL.2 a rfl
      have hst := hL.step (cons_met s.list) (n := m - 1) (by omega)
      have hw : IntKind.i64.wrap ((m : Int) - 1) = ((m - 1 : Nat) : Int) := by rw [wrap64 (by omega) (by omega)]; omega
      have hg1 : (L.length + 1) * 56 ≤ 140737488355328 := by omega
      have hg2 : L.length + 1 ≤ mx := by unfold mx; omega
      rcases hY with ⟨rfl,rfl,rfl⟩ | ⟨y1,y2,tc,rows,n,rfl,rfl,rfl,rfl⟩
      · simp [e0,e2,e3,e8,hmp,hmp',osO,retC,clO]
        refine call_os (o := osO s t a false) (i := 0) rfl ho1 .str (os_text hl ho1 _) fun o2 c2 _ ho2 => ?_
        simp [e0,e2,e3,e8,putA]
        refine call_os (i := 0) rfl ho2 .str (os_text hl ho2 _) fun o3 c3 _ ho3 => ?_
        simp [e0,e2,e3,e8,putA]
        refine call_os (i := 0) rfl ho3 .str (os_text hl ho3 _) fun o4 c4 _ ho4 => ?_
        simp [e0,e2,e3,e8,putA]
        refine call_os (i := 0) rfl ho4 .bool (os_flag hl ho4 _) fun o5 c5 _ ho5 => ?_
        simp [e0,e2,e3,e8,putA]
        refine call_os (i := 0) rfl ho5 .bool (os_flag hl ho5 _) fun o6 c6 _ ho6 => ?_
        simp [e0,e2,e3,e8,hw,hg1,hg2,putA]
        exact ⟨by unfold mx; omega,hN _ _ (List.take 10 _) _ (by omega) (List.take_sublist 10 _) ⟨_,m - 1,_,o6,_,[_,_,_],by omega,ho6,hst,.inr ⟨_,_,_,_,_,rfl,by simp,rfl,by simp [TMethod.enc,rMet]⟩,by simp [upd,e0],by simp [upd,e2],by simp [upd,e3],by simp [upd],rfl⟩⟩
      · simp [e0,e2,e3,e8,hmp,hmp',osO,retC,clO]
        refine call_os (o := osO s t a false) (i := 0) rfl ho1 .str (os_text hl ho1 _) fun o2 c2 _ ho2 => ?_
        simp [e0,e2,e3,e8,putA]
        refine call_os (i := 0) rfl ho2 .str (os_text hl ho2 _) fun o3 c3 _ ho3 => ?_
        simp [e0,e2,e3,e8,putA]
        refine call_os (i := 0) rfl ho3 .str (os_text hl ho3 _) fun o4 c4 _ ho4 => ?_
        simp [e0,e2,e3,e8,putA]
        refine call_os (i := 0) rfl ho4 .bool (os_flag hl ho4 _) fun o5 c5 _ ho5 => ?_
        simp [e0,e2,e3,e8,putA]
        refine call_os (i := 0) rfl ho5 .bool (os_flag hl ho5 _) fun o6 c6 _ ho6 => ?_
        simp [e0,e2,e3,e8,hw,hg1,hg2,putA]
        exact hN _ _ (List.take 10 _) _ (by omega) (List.take_sublist 10 _) ⟨_,m - 1,_,o6,_,[_,_,_],by omega,ho6,hst,.inr ⟨_,_,_,_,_,rfl,by simp,rfl,by simp [TMethod.enc,rMet]⟩,by simp [upd,e0],by simp [upd,e2],by simp [upd,e3],by simp [upd],rfl⟩
set_option maxRecDepth 100000
theorem cons_class (b : List UInt8) : Cons b (rClass b) TClass.sz := by
  refine ⟨?_,fun a a' h => ?_⟩
  · unfold rClass
    simp only
    rw [show (rText b none).2 = none from rfl,show (rText b none).2 = none from rfl,(cons_list (cons_field b)).non]
    exact (cons_list (cons_met b)).non
  unfold rClass at h ⊢
  simp only at h ⊢
  generalize hn : rText b (some a) = n at h ⊢
  generalize hq : rText b n.2 = q at h ⊢
  generalize hf : rList b (rField b) q.2 = f at h ⊢
  generalize hm : rList b (rMet b) f.2 = m at h ⊢
  rw [← hm] at h
  obtain ⟨a3,h3,k3,l3⟩ := cons_of_some (cons_list (cons_met b)) h
  rw [← hf] at h3
  obtain ⟨a2,h2,k2,l2⟩ := cons_of_some (cons_list (cons_field b)) h3
  rw [← hq] at h2
  obtain ⟨a1,h1,k1,l1⟩ := cons_of_some (cons_text b) h2
  rw [← hn] at h1
  obtain ⟨a0,h0,k0,l0⟩ := cons_of_some (cons_text b) h1
  cases h0
  rw [hm] at k3
  rw [hf] at k2
  rw [hq] at k1
  rw [hn] at k0
  have e : (⟨n.1,q.1,.mk 0 f.1,.mk 0 m.1⟩ : TClass).sz = n.1.length + q.1.length + (f.1.length + szL TField.sz f.1) + (m.1.length + szL TMethod.sz m.1) := rfl
  rw [e]
  omega
def Has4 (K : List TClass) : Prop := ∃ k,k ∈ K ∧ ∃ x,x ∈ k.Fields.list ∧ x.Init.Kind = 4
def AllNil (K : List TClass) : Prop := ∀ k,k ∈ K → ∀ x,x ∈ k.Fields.list → x.Init.Items = .nil
structure ClI (R : List TClass × RSt) (f : RSt → TClass × RSt) (s0 : RSt) (K : List TClass) (m : Nat) (σ : RSt) : Prop where
  ex : (∃ Lp,RepAt f R Lp m σ ∧ K.map TClass.con = Lp.map TClass.con ∧ AllNil K) ∨ (R.2 = none ∧ (σ = none ∨ Has4 K))
  sz : ∀ a,σ = some a → ∃ a0,s0 = some a0 ∧ a0 + szL TClass.sz K + K.length ≤ a
structure ClF (R : List TClass × RSt) (s0 : RSt) (K : List TClass) (σ : RSt) : Prop where
  ex : (K.map TClass.con = R.1.map TClass.con ∧ R.2 = σ ∧ AllNil K) ∨ (R.2 = none ∧ (σ = none ∨ Has4 K))
  sz : ∀ a,σ = some a → ∃ a0,s0 = some a0 ∧ a0 + szL TClass.sz K + K.length ≤ a
theorem ClI.nil {f : RSt → TClass × RSt} {m : Nat} {s0 : RSt} : ClI (rRep f m s0) f s0 [] m s0 := ⟨.inl ⟨[],RepAt.nil,rfl,fun k hk => by simp at hk⟩,fun a h => ⟨a,h,by simp [szL]⟩⟩
theorem ClI.len {R : List TClass × RSt} {f : RSt → TClass × RSt} {s0 : RSt} {K : List TClass} {m a : Nat} (h : ClI R f s0 K m (some a)) : K.length ≤ a := by
  obtain ⟨a0,_,h2⟩ := h.sz a rfl
  omega
theorem ClI.fin0 {R : List TClass × RSt} {f : RSt → TClass × RSt} {s0 : RSt} {K : List TClass} {σ : RSt} (h : ClI R f s0 K 0 σ) : ClF R s0 K σ :=
  ⟨h.ex.imp (fun ⟨Lp,h1,h2,h3⟩ => by rw [h1.zero]; exact ⟨h2,rfl,h3⟩) id,h.sz⟩
theorem ClI.finN {R : List TClass × RSt} {f : RSt → TClass × RSt} {s0 : RSt} {K : List TClass} {m : Nat} (h : ClI R f s0 K m none) : ClF R s0 K none :=
  ⟨h.ex.imp (fun ⟨Lp,h1,h2,h3⟩ => by rw [h1.none]; exact ⟨h2,rfl,h3⟩) id,h.sz⟩
theorem ClI.step {b : List UInt8} {R : List TClass × RSt} {s0 σ' : RSt} {K : List TClass} {k : TClass} {m n a : Nat} (h : ClI R (rClass b) s0 K m (some a)) (hm : m = n + 1) (hq : ClsQ b (some a) k σ') : ClI R (rClass b) s0 (K ++ [k]) n σ' := by
  refine ⟨?_,fun a' ha' => ?_⟩
  · have has : Has4 K → Has4 (K ++ [k]) := fun ⟨y,hy,hx⟩ => ⟨y,List.mem_append_left _ hy,hx⟩
    have lost : (R.2 = none) → (σ' = none ∨ ∃ x,x ∈ k.Fields.list ∧ x.Init.Kind = 4) → R.2 = none ∧ (σ' = none ∨ Has4 (K ++ [k])) := fun h1 h2 => ⟨h1,h2.imp id fun hx => ⟨k,List.mem_append_right _ (List.mem_singleton.2 rfl),hx⟩⟩
    rcases h.ex with ⟨Lp,h1,h2,h3⟩ | ⟨h1,h2⟩
    · have hst := h1.step (cons_class b) hm
      rcases hq.ex with ⟨q1,q2,q3⟩ | ⟨q1,q2⟩
      · refine .inl ⟨Lp ++ [(rClass b (some a)).1],by rw [q2]; exact hst,by rw [List.map_append,List.map_append,h2]; simp [q1],fun y hy => ?_⟩
        rcases List.mem_append.1 hy with hy | hy
        · exact h3 y hy
        · rw [List.mem_singleton.1 hy]; exact q3
      · have hR : R.2 = none := by rw [hst.1,q1,rep_none]
        exact .inr (lost hR q2)
    · rcases h2 with h2 | h2
      · cases h2
      · exact .inr ⟨h1,.inr (has h2)⟩
  · obtain ⟨a1,e1,h1⟩ := hq.sz a' ha'
    cases e1
    obtain ⟨a0,h0,hz⟩ := h.sz a rfl
    refine ⟨a0,h0,?_⟩
    have e : szL TClass.sz (K ++ [k]) = szL TClass.sz K + k.sz := by simp [szL]
    rw [e,List.length_append,List.length_singleton]
    omega
theorem con_perm {P : Program} {f : Nat} {args : List AV} {H : List AObj} {c : Nat} {Q Q' : AV → List AObj → Nat → Prop} (h : Con P f args H c Q) (hq : ∀ r H' c',Q r H' c' → ∃ Hs H2,Hs.Sublist H' ∧ H2.Perm Hs ∧ Q' r H2 c') : Con P f args H c Q' := by
  intro G w vs e I hs hr
  refine (h G w vs e I hs hr).mono fun en w' ⟨v,res,H',G',h1,h2,h3,h4,h5⟩ => ?_
  obtain ⟨Hs,H2,hsub,hp,q⟩ := hq _ _ _ h2
  have h3 := h3.drop hsub
  have h4 := h4.drop hsub
  have ht : ∀ t,t ∈ tags H2 ↔ t ∈ tags Hs := fun t => (hp.map _).mem_iff
  refine ⟨v,res,H2,G',h1,q,⟨h3.x,h3.os,h3.tape,h3.output,h3.size,h3.frame,h3.newm,fun t a b => h3.oldH t a ((ht t).1 b),h3.oldF⟩,⟨h4.fz,fun o ho => h4.obj o (hp.mem_iff.1 ho),fun t a => h4.nfz t ((ht t).1 a),(hp.map _).nodup_iff.2 h4.nodup,fun t t' a b => h4.inj t t' (a.imp id (ht t).1) (b.imp id (ht t').1),h4.gl⟩,h5⟩
set_option maxRecDepth 100000
def lineOk (a : TLine) : Bool :=
  inR a.Seq 0 1000000000000 && inR a.Owner 0 8 && inR a.Version 0 1000000000000 && decide (a.Words.list.length ≤ 4100) && (decide (a.Seq.tmod 2 = 1) == decide (0 < a.Owner))
def areLines (l : List TLine) : Bool := l.all lineOk && decide (l.length ≤ 8)
theorem spec_areLines {s : SL TLine} (hn : s.list.length ≤ mx) : Fnc Tryz.prog 53 [s.av 4 TLine.enc] (.bool (areLines s.list)) := by
  refine fn_of c53 (by simp [F53]) fun c => ?_
  unfold F53
  simp
  refine loop_drop s.list.length (fun i e H c' => e 0 = s.av 4 TLine.enc ∧ e 3 = .int .i64 i ∧ (s.list.take i).all lineOk = true ∧ H = []) ⟨rfl,rfl,by simp,rfl⟩ ?_
  intro i e H c hi ⟨e0,e3,hall,hH⟩ N hN
  subst hH
  simp [e0,e3]
  refine ⟨fun h => ⟨s.list[i],List.getElem?_eq_getElem h,?_⟩,fun h => ?_⟩
  · generalize hx : s.list[i] = x
    have bad : lineOk x = false → areLines s.list = false := fun hb => by
      unfold areLines
      have : s.list.all lineOk = false := by
        rw [List.all_eq_false]; exact ⟨x,hx ▸ List.getElem_mem h,by simp [hb]⟩
      simp [this]
    simp [e0,e3]
    refine call_fn0 (l1In_fn _ _ _) .bool fun _ _ => ?_
    cases h1 : inR x.Seq 0 1000000000000
    · simp [e0,e3]; exact fin_plain ⟨by rw [bad (by simp [lineOk,h1])],rfl⟩
    simp [e0,e3]
    refine call_fn0 (l1In_fn _ _ _) .bool fun _ _ => ?_
    cases h2 : inR x.Owner 0 8
    · simp [e0,e3]; exact fin_plain ⟨by rw [bad (by simp [lineOk,h2])],rfl⟩
    simp [e0,e3]
    refine call_fn0 (l1In_fn _ _ _) .bool fun _ _ => ?_
    cases h3 : inR x.Version 0 1000000000000
    · simp [e0,e3]; exact fin_plain ⟨by rw [bad (by simp [lineOk,h3])],rfl⟩
    simp [e0,e3]
    by_cases h4 : (4100 : Int) < x.Words.list.length
    · simp [e0,e3,h4]; exact fin_plain ⟨by rw [bad (by simp [lineOk]; intros; omega)],rfl⟩
    simp [e0,e3,h4]
    have h4' : x.Words.list.length ≤ 4100 := by omega
    by_cases h5 : x.Seq.tmod 2 = 1 <;> by_cases h6 : 0 < x.Owner <;> simp [e0,e3,h5,h6]
    all_goals first
      | exact fin_plain ⟨by rw [bad (by simp [lineOk,h5,h6])],rfl⟩
      | exact hN _ _ _ _ h (List.nil_sublist _) ⟨by simp [upd,e0],by simp [upd]; exact step64 hn h,all_step hall h (by rw [hx]; simp [lineOk,h1,h2,h3,h4',h5,h6]),rfl⟩
  · have : i = s.list.length := by omega
    subst this
    rw [List.take_length] at hall
    refine fin_plain ⟨?_,rfl⟩
    simp [areLines,hall]
    omega
theorem impl_areLines {s : SL TLine} (hn : s.list.length ≤ mx) : Fnc Tryz.prog 65 [s.av 4 TLine.enc] (.bool (areLines s.list)) := by
  refine fn_of c65 (by simp [F65]) fun c => ?_
  unfold F65
  simp
  refine loop_drop s.list.length (fun i e H c' => e 0 = s.av 4 TLine.enc ∧ e 5 = s.av 4 TLine.enc ∧ e 6 = .int .i64 s.list.length ∧ e 7 = .int .i64 i ∧ (s.list.take i).all lineOk = true ∧ H = []) ⟨rfl,rfl,rfl,rfl,by simp,rfl⟩ ?_
  intro i e H c hi ⟨e0,e5,e6,e7,hall,hH⟩ N hN
  subst hH
  simp [e0,e5,e6,e7]
  refine ⟨fun h => ⟨s.list[i],List.getElem?_eq_getElem h,?_⟩,fun h => ?_⟩
  · generalize hx : s.list[i] = x
    have bad : lineOk x = false → areLines s.list = false := fun hb => by
      unfold areLines
      have : s.list.all lineOk = false := by
        rw [List.all_eq_false]; exact ⟨x,hx ▸ List.getElem_mem h,by simp [hb]⟩
      simp [this]
    simp [e0,e5,e6,e7]
    refine call_fn0 (inRange_fn _ _ _) .bool fun _ _ => ?_
    cases h1 : inR x.Seq 0 1000000000000
    · simp [e0,e5,e6,e7]; exact fin_plain ⟨by rw [bad (by simp [lineOk,h1])],rfl⟩
    simp [e0,e5,e6,e7]
    refine call_fn0 (inRange_fn _ _ _) .bool fun _ _ => ?_
    cases h3 : inR x.Version 0 1000000000000
    · simp [e0,e5,e6,e7]; exact fin_plain ⟨by rw [bad (by simp [lineOk,h3])],rfl⟩
    simp [e0,e5,e6,e7]
    refine call_fn0 (inRange_fn _ _ _) .bool fun _ _ => ?_
    cases h2 : inR x.Owner 0 8
    · simp [e0,e5,e6,e7]; exact fin_plain ⟨by rw [bad (by simp [lineOk,h2])],rfl⟩
    simp [e0,e5,e6,e7]
    by_cases h4 : (4100 : Int) < x.Words.list.length
    · simp [e0,e5,e6,e7,h4]; exact fin_plain ⟨by rw [bad (by simp [lineOk]; intros; omega)],rfl⟩
    simp [e0,e5,e6,e7,h4]
    have h4' : x.Words.list.length ≤ 4100 := by omega
    by_cases h5 : x.Seq.tmod 2 = 1 <;> by_cases h6 : 0 < x.Owner <;> simp [e0,e5,e6,e7,h5,h6]
    all_goals first
      | exact fin_plain ⟨by rw [bad (by simp [lineOk,h5,h6])],rfl⟩
      | exact hN _ _ _ _ h (List.nil_sublist _) ⟨by simp [upd,e0],by simp [upd,e5],by simp [upd,e6],by simp [upd]; exact step64 hn h,all_step hall h (by rw [hx]; simp [lineOk,h1,h2,h3,h4',h5,h6]),rfl⟩
  · have : i = s.list.length := by omega
    subst this
    rw [List.take_length] at hall
    refine fin_plain ⟨?_,rfl⟩
    simp [areLines,hall]
    omega
set_option maxRecDepth 100000
end A
end Go.Proofs.YtgalkppgeoknaaaGreatDoor

namespace Go.Proofs.YtgalkppgeoknaaaGreatDoor
namespace A
set_option linter.unusedVariables false
set_option linter.unusedSimpArgs false
set_option maxRecDepth 100000
set_option maxRecDepth 100000
def wrOk (l : List TLine) (at_ v : Int) (n : Nat) : Bool :=
  areLines l && inR at_ 0 ((l.length : Int) - 1) && (match l[at_.toNat]? with | some x => !decide (x.Seq.tmod 2 = 1) && !decide (999999999998 < x.Seq) | none => false) && inR v 1 1000000000000 && decide (n ≤ 4100)
def wrOne (v : Int) (w : SL Int) (x : TLine) : TLine := ⟨x.Seq + 2,0,v,w⟩
def wr (l : List TLine) (at_ v : Int) (ws : SL Int) : List TLine :=
  if wrOk l at_ v ws.list.length then (match l[at_.toNat]? with | some x => l.set at_.toNat (wrOne v ws x) | none => l) else l
set_option maxRecDepth 100000
end A
end Go.Proofs.YtgalkppgeoknaaaGreatDoor

namespace Go.Proofs.YtgalkppgeoknaaaGreatDoor
namespace A
set_option linter.unusedVariables false
set_option linter.unusedSimpArgs false
set_option maxRecDepth 100000
theorem okL_of {α : Type} {sz : α → Nat} {ok : α → Prop} {l : List α} {n : Nat} (hn : n ≤ mx) (h : l.length + szL sz l ≤ n) (ho : ∀ x,x ∈ l → sz x ≤ n → ok x) : l.length ≤ mx ∧ ∀ x,x ∈ l → ok x :=
  ⟨by omega,fun x hx => ho x hx (by have := szL_mem (sz := sz) hx; omega)⟩
theorem func_okz {f : TFunc} (h : f.sz ≤ 1048576) : f.ok := by
  have hm : (1048576 : Nat) ≤ mx := by unfold mx; omega
  have hz2 : f.sz = f.Name.length + (f.Params.list.length + szL TParam.sz f.Params.list) + (f.Uses.list.length + szL TParam.sz f.Uses.list) + (f.Slots.list.length + szL List.length f.Slots.list) + (f.Code.list.length + szL TIns.sz f.Code.list) := rfl
  refine ⟨by omega,okL_of (sz := TParam.sz) hm (by omega) fun x _ hx => ?_,okL_of (sz := TParam.sz) hm (by omega) fun x _ hx => ?_,okL_of (sz := List.length) hm (by omega) fun x _ hx => ?_,okL_of (sz := TIns.sz) hm (by omega) fun x _ hx => ?_⟩
  · have : x.sz = x.Name.length := rfl
    show x.Name.length ≤ mx; omega
  · have : x.sz = x.Name.length := rfl
    show x.Name.length ≤ mx; omega
  · show x.length ≤ mx; omega
  · have : x.sz = x.S.length + x.T.length := rfl
    exact ⟨by omega,by omega⟩
theorem class_okz {c : TClass} (h : c.sz ≤ 1048576) : c.ok := by
  have hm : (1048576 : Nat) ≤ mx := by unfold mx; omega
  have hz2 : c.sz = c.Name.length + c.Parent.length + (c.Fields.list.length + szL TField.sz c.Fields.list) + (c.Methods.list.length + szL TMethod.sz c.Methods.list) := rfl
  refine ⟨by omega,by omega,okL_of (sz := TField.sz) hm (by omega) fun x _ hx => ?_,okL_of (sz := TMethod.sz) hm (by omega) fun x _ hx => ?_⟩
  · have : x.sz = x.Name.length + x.Owner.length + x.Init.sz := rfl
    exact ⟨by omega,by omega,ok_of_sz _ (by omega)⟩
  · have : x.sz = x.Name.length + x.Owner.length + x.From.length := rfl
    exact ⟨by omega,by omega,by omega⟩
theorem prog_okz {p : TProgram} (h : p.sz ≤ 1048576) : p.ok := by
  have hm : (1048576 : Nat) ≤ mx := by unfold mx; omega
  have hz2 : p.sz = (p.Funcs.list.length + szL TFunc.sz p.Funcs.list) + (p.Classes.list.length + szL TClass.sz p.Classes.list) := rfl
  exact ⟨okL_of (sz := TFunc.sz) hm (by omega) fun x _ hx => func_okz hx,okL_of (sz := TClass.sz) hm (by omega) fun x _ hx => class_okz hx⟩
set_option maxRecDepth 100000
def ret2 (c : Nat) : AObj := ⟨false,c,2,[[.nsl,.nsl]]⟩
def prO (t : Nat) (X Y : AV) : AObj := ⟨false,t,2,[[X,Y]]⟩
def ListAt {α : Type} (b w : Nat) (encO : α → List AV) (inn : α → List AObj) (X : AV) (L : List α) (R : List AObj) : Prop :=
  (L = [] ∧ X = .nsl ∧ R = []) ∨ ∃ f1 L' x ts rows n i,L = f1 :: L' ∧ X = .ref i ts w n ∧ i = (inn f1).length + 1 + b ∧ n = L.length ∧ R = inn f1 ++ x :: ⟨false,ts,w,rows⟩ :: L'.flatMap inn ∧ rows = L.map encO
theorem get_end {A T N : List AObj} {x y z : AObj} : (A ++ x :: y :: (T ++ (N ++ [z])))[A.length + (T.length + N.length + 1 + 1)]? = some z := by
  rw [List.getElem?_append_right (by omega),Nat.add_sub_cancel_left,List.getElem?_cons_succ,List.getElem?_cons_succ,List.getElem?_append_right (by omega),Nat.add_sub_cancel_left,List.getElem?_append_right (by omega),Nat.sub_self]
  rfl
theorem get_end2 {T N : List AObj} {z : AObj} : (T ++ (N ++ [z]))[T.length + N.length]? = some z := by
  rw [List.getElem?_append_right (by omega),Nat.add_sub_cancel_left,List.getElem?_append_right (by omega),Nat.sub_self]
  rfl
theorem sub_end {A T N U : List AObj} {a b d x y z : AObj} (h : U = T ++ N) : (a :: b :: d :: (A ++ x :: y :: U)).Sublist (a :: b :: d :: (A ++ x :: y :: (T ++ (N ++ [z])))) := by
  subst h
  refine .cons_cons _ (.cons_cons _ (.cons_cons _ (List.Sublist.append_left (.cons_cons _ (.cons_cons _ ?_)) A)))
  rw [← List.append_assoc]
  exact List.sublist_append_left _ _
noncomputable def decF (b : List UInt8) : List TFunc × RSt := rList b (rFunc b) (some 0)
noncomputable def decK (b : List UInt8) : List TClass × RSt := rList b (rClass b) (decF b).2
noncomputable def decP (b : List UInt8) : TProgram := ⟨.mk 0 (decF b).1,.mk 0 (decK b).1⟩
def DecOk (b : List UInt8) : Prop := (decK b).2 = some b.length ∧ ProgOk (decP b)
def DecR (b : List UInt8) (r : AV) (O : List AObj) : Prop :=
  (∃ p : TProgram,DecOk b ∧ r = .tup [.agg (TProgram.encO p),.bool true] ∧ p.con = (decP b).con ∧ ∃ Hs,Hs.Sublist O ∧ p.inn.Perm Hs) ∨ (¬ DecOk b ∧ r = .tup [.agg [.nsl,.nsl],.bool false])
def ListAtP {α : Type} (pre : List AObj) (w : Nat) (encO : α → List AV) (inn : α → List AObj) (X : AV) (L : List α) (R : List AObj) : Prop :=
  (L = [] ∧ X = .nsl ∧ R = pre) ∨ ∃ f1 L' A x ts rows n i,A = pre ++ inn f1 ∧ L = f1 :: L' ∧ X = .ref i ts w n ∧ i = A.length + 1 + 3 ∧ n = L.length ∧ R = A ++ x :: ⟨false,ts,w,rows⟩ :: L'.flatMap inn ∧ rows = L.map encO
theorem ListAt.p {α : Type} {w : Nat} {encO : α → List AV} {inn : α → List AObj} {X : AV} {L : List α} {R : List AObj} (h : ListAt 3 w encO inn X L R) : ListAtP [] w encO inn X L R := by
  rcases h with h | ⟨f1,L',x,ts,rows,n,i,h1,h2,h3,h4,h5,h6⟩
  · exact .inl h
  · exact .inr ⟨f1,L',inn f1,x,ts,rows,n,i,rfl,h1,h2,h3,h4,h5,h6⟩
theorem ListAtP.pre {α : Type} {pre : List AObj} {w : Nat} {encO : α → List AV} {inn : α → List AObj} {X : AV} {L : List α} {R : List AObj} (h : ListAtP pre w encO inn X L R) : ∀ o,o ∈ pre → o ∈ R := fun o ho => by
  rcases h with ⟨_,_,rfl⟩ | ⟨f1,L',A,x,ts,rows,n,i,rfl,h1,h2,h3,h4,rfl,h6⟩
  · exact ho
  · simp [ho]
theorem ListAtP.sl {α : Type} {pre : List AObj} {w : Nat} {encO : α → List AV} {inn : α → List AObj} {X : AV} {L : List α} {R : List AObj} (h : ListAtP pre w encO inn X L R) : ∃ S : SL α,S.list = L ∧ View [] X (S.ref w) ∧ X.cell = true ∧
    (∀ (T : List AObj) (enc : α → List AV),(∀ x a,a ∈ enc x → a.cell = true) → (∀ x,(encO x).length = (enc x).length) → (∀ x,(∀ o,o ∈ inn x → o ∈ T) → ∀ (j : Nat) (a a' : AV),(encO x)[j]? = some a → (enc x)[j]? = some a' → View T a a') → (∀ o,o ∈ R → o ∈ T) → View T X (S.av w enc)) ∧
    ∀ Hp : List AObj,Hp.Sublist pre → ∃ Hs,Hs.Sublist R ∧ (Hp ++ S.wood w encO inn).Perm Hs := by
  rcases h with ⟨rfl,rfl,rfl⟩ | ⟨f1,L',A,x,ts,rows,n,i,rfl,h1,rfl,h3,rfl,rfl,rfl⟩
  · exact ⟨.nil,rfl,.refl _,rfl,fun T enc _ _ _ _ => .refl _,fun Hp hp => ⟨Hp,hp,by simp [SL.wood]⟩⟩
  · have hw : wood ts w encO inn L = ⟨false,ts,w,L.map encO⟩ :: (inn f1 ++ L'.flatMap inn) := by unfold wood; rw [h1]; simp
    refine ⟨.mk ts L,rfl,.name,rfl,fun T enc hc hl hv hT => view_wood1 (fun o ho => hT o ?_) rfl hc hl hv,fun Hp hp => ⟨Hp ++ (inn f1 ++ ⟨false,ts,w,L.map encO⟩ :: L'.flatMap inn),?_,?_⟩⟩
    · rw [hw] at ho
      simp only [List.mem_cons,List.mem_append] at ho ⊢
      rcases ho with h | h | h
      · exact .inr (.inr (.inl h))
      · exact .inl (.inr h)
      · exact .inr (.inr (.inr h))
    · rw [← List.append_assoc]
      exact (hp.append_right _).append (.cons _ (.refl _))
    · show (Hp ++ wood ts w encO inn L).Perm _
      rw [hw]
      exact List.Perm.append_left Hp List.perm_middle.symm
theorem inn_nil {k : TClass} (h : ∀ x,x ∈ k.Fields.list → x.Init.Items = .nil) : TClass.inn k = clsInn k := by
  unfold TClass.inn clsInn
  congr 1
  cases hF : k.Fields with
  | nil => rfl
  | mk t l =>
    rw [hF] at h
    have h1 : l.map TField.encO = l.map TField.enc := List.map_congr_left fun x hx => by
      have := h x hx
      unfold TField.encO TField.enc
      rw [this]
      rfl
    have h2 : l.flatMap TField.inn = l.flatMap noInn := by
      have : ∀ m : List TField,(∀ x,x ∈ m → x.Init.Items = .nil) → m.flatMap TField.inn = m.flatMap noInn := fun m => by
        induction m with
        | nil => intro _; rfl
        | cons y m ih =>
          intro hm
          rw [List.flatMap_cons,List.flatMap_cons,ih fun x hx => hm x (List.mem_cons_of_mem _ hx)]
          congr 1
          unfold TField.inn
          rw [hm y List.mem_cons_self]
          rfl
      exact this l h
    show wood t 8 TField.encO TField.inn l = wood t 8 TField.enc noInn l
    unfold wood
    rw [h1,h2]
theorem wood_nil {S : SL TClass} (h : AllNil S.list) : S.wood 4 TClass.encO TClass.inn = S.wood 4 TClass.encO clsInn := by
  cases S with
  | nil => rfl
  | mk t l =>
    have : ∀ m : List TClass,AllNil m → m.flatMap TClass.inn = m.flatMap clsInn := fun m => by
      induction m with
      | nil => intro _; rfl
      | cons y m ih =>
        intro hm
        rw [List.flatMap_cons,List.flatMap_cons,ih fun x hx => hm x (List.mem_cons_of_mem _ hx),inn_nil (hm y List.mem_cons_self)]
    show wood t 4 TClass.encO TClass.inn l = wood t 4 TClass.encO clsInn l
    unfold wood
    rw [this l h]
theorem cls_view {T : List AObj} (x : TClass) (h : ∀ o,o ∈ clsInn x → o ∈ T) : ∀ (j : Nat) (a a' : AV),(TClass.encO x)[j]? = some a → (TClass.enc x)[j]? = some a' → View T a a' := fun j a a' h1 h2 => by
  match j,h1,h2 with
  | 0,h1,h2 => simp [TClass.encO] at h1; simp [TClass.enc] at h2; subst h1; subst h2; exact .refl _
  | 1,h1,h2 => simp [TClass.encO] at h1; simp [TClass.enc] at h2; subst h1; subst h2; exact .refl _
  | 2,h1,h2 => simp [TClass.encO] at h1; simp [TClass.enc] at h2; subst h1; subst h2; exact view_flat (fun o ho => h o (by simp [clsInn,ho])) fun y => TField.cells y
  | 3,h1,h2 => simp [TClass.encO] at h1; simp [TClass.enc] at h2; subst h1; subst h2; exact view_flat (fun o ho => h o (by simp [clsInn,ho])) TMethod.flat.cells
  | j + 4,h1,h2 => simp [TClass.encO] at h1
theorem av_clsInn (k : TClass) : ∀ o,o ∈ clsInn k → AvRows [] o := fun o ho => by
  unfold clsInn at ho
  rcases List.mem_append.1 ho with ho | ho
  · cases hF : k.Fields with
    | nil => rw [hF] at ho; cases ho
    | mk t l =>
      rw [hF] at ho
      simp [SL.wood,wood_flat] at ho
      subst ho
      intro r j x a hx ha
      obtain ⟨y,_,rfl⟩ : ∃ y,y ∈ l ∧ TField.enc y = x := by simpa using List.mem_of_getElem? hx
      have hm := List.mem_of_getElem? ha
      have e : TField.enc y = [.str y.Name,.str y.Owner,.bool y.Private] ++ y.Init.enc := by rw [TValue.enc_eq]; rfl
      rw [e,List.mem_append] at hm
      rcases hm with hm | hm
      · simp at hm
        rcases hm with rfl | rfl | rfl
        · exact .str
        · exact .str
        · exact .bool
      · obtain ⟨j2,hj2⟩ := List.mem_iff_getElem?.1 hm
        cases free_val y.Init with
        | agg h => exact h j2 a hj2
  · cases hF : k.Methods with
    | nil => rw [hF] at ho; cases ho
    | mk t l =>
      rw [hF] at ho
      simp [SL.wood,wood_flat] at ho
      subst ho
      intro r j x a hx ha
      obtain ⟨y,_,rfl⟩ : ∃ y,y ∈ l ∧ TMethod.enc y = x := by simpa using List.mem_of_getElem? hx
      have hm := List.mem_of_getElem? ha
      simp [TMethod.enc] at hm
      rcases hm with rfl | rfl | rfl | rfl | rfl
      · exact .str
      · exact .str
      · exact .str
      · exact .bool
      · exact .bool
theorem func_con2 (f : TFunc) : f.con.con = f.con := by
  simp [TFunc.con,SL.con,SL.pcon,show TParam.con = id from rfl,show TIns.con = id from rfl]
def FunI (R : List TFunc × RSt) (f : RSt → TFunc × RSt) (L : List TFunc) (m : Nat) (σ : RSt) : Prop := RepAt f R (L.map TFunc.con) m σ
set_option maxHeartbeats 4000000 in
theorem ir_decode (hU : ∀ x : List UInt8,x.length ≤ 1048576 → Tr Tryz.prog 129 [.str x] fun _ r => ∃ (v : TValue) (ok : Bool),r = .tup [.agg v.enc,.bool ok] ∧ UserQ x v ok)
    {s : SL UInt8} (hl : s.list.length ≤ 24000) (c : Nat) : Con Tryz.prog 45 [s.av 1 byteRow] [] c fun r O _ => DecR s.list r O := by
  have hl' : s.list.length ≤ 1048576 := by omega
  refine con_of c45 (by simp [F45]) ?_
  unfold F45
  rw [irW_assoc,irW_assoc,irW_assoc]
  refine seq_cut (fun e H c' => ∃ (o1 : AObj) (X : AV) (R : List AObj) (L : List TFunc),ObI s (c + 1) (rList s.list (rFunc s.list) (some 0)).2 o1 ∧ ListAt 3 6 TFunc.encO TFunc.inn X L R ∧ L.map TFunc.con = (rList s.list (rFunc s.list) (some 0)).1 ∧ e 0 = s.av 1 byteRow ∧ e 2 = .ptr 0 c 2 0 0 ∧ e 4 = .ptr 1 (c + 1) 3 0 0 ∧ e 5 = .ptr 2 (c + 1 + 1) 2 0 0 ∧
    H = ret2 c :: o1 :: prO (c + 1 + 1) X .nsl :: R) ?_ ?_
  rotate_left
  · intro K hK
    have ho0 : ObI s (c + 1) (some 0) (irO s (c + 1) 0 false) := ⟨0,false,rfl,Nat.zero_le _,.inl ⟨rfl,rfl⟩⟩
    simp [putA]
    refine call_ir (i := 1) (o := irO s (c + 1) 0 false) rfl ho0 .int (ir_num hl' ho0 _) fun o1 c1 _ ho1 => ?_
    have hR : rList s.list (rFunc s.list) (some 0) = rRep (rFunc s.list) (rNum s.list (some 0)).1 (rNum s.list (some 0)).2 := rfl
    have hnb : (rNum s.list (some 0)).1 ≤ 1000000000000 := rNum_le s.list (some 0)
    generalize (rNum s.list (some 0)).1 = n0 at hR hnb
    generalize (rNum s.list (some 0)).2 = σ0 at hR ho1
    simp
    refine loop_drop n0 (fun k e H c' => ∃ (L : List TFunc) (m : Nat) (σ1 : RSt) (o1 : AObj) (X : AV) (R : List AObj),m = n0 - k ∧ ObI s (c + 1) σ1 o1 ∧ FunI (rList s.list (rFunc s.list) (some 0)) (rFunc s.list) L m σ1 ∧ ListAt 3 6 TFunc.encO TFunc.inn X L R ∧ e 0 = s.av 1 byteRow ∧ e 2 = .ptr 0 c 2 0 0 ∧ e 4 = .ptr 1 (c + 1) 3 0 0 ∧ e 5 = .ptr 2 (c + 1 + 1) 2 0 0 ∧ e 6 = .int .i64 m ∧ H = ret2 c :: o1 :: prO (c + 1 + 1) X .nsl :: R) ⟨[],n0,σ0,o1,.nsl,[],by omega,ho1,by rw [hR]; exact RepAt.nil,.inl ⟨rfl,rfl,rfl⟩,by simp [upd],by simp [upd],by simp [upd],by simp [upd],by simp [upd],rfl⟩ ?_
    intro k e H c' hk ⟨L,m,σ1,o1,X,R,hm,ho1,hL,hX,e0,e2,e4,e5,e6,hH⟩ N hN
    subst hH
    by_cases hm0 : m = 0
    · subst hm0
      have hz := RepAt.zero hL
      simp [e0,e4,e5,e6]
      exact hK _ _ _ ⟨o1,X,R,L,by rw [hz]; exact ho1,hX,by rw [hz],by simp [upd,e0],by simp [upd,e2],by simp [upd,e4],by simp [upd,e5],rfl⟩
    have hmp : (0 : Int) < (m : Int) := by omega
    have hmp' : 0 < m := by omega
    have ho1' := ho1
    obtain ⟨a,b,rfl,ha,hσ⟩ := ho1'
    rcases hσ with ⟨rfl,rfl⟩ | ⟨rfl,rfl⟩
    rotate_left
    · have hz := RepAt.none hL
      simp [e0,e4,e5,e6,hmp,hmp',irO]
      exact hK _ _ _ ⟨irO s (c + 1) a true,X,R,L,by rw [hz]; exact ho1,hX,by rw [hz],by simp [upd,e0],by simp [upd,e2],by simp [upd,e4],by simp [upd,e5],rfl⟩
    have hLa : L.length ≤ a := by have := hL.2 a rfl; simpa using this
    have hst := RepAt.step (cons_func s.list) hL (n := m - 1) (by omega)
    have hw : IntKind.i64.wrap ((m : Int) - 1) = ((m - 1 : Nat) : Int) := by rw [wrap64 (by omega) (by omega)]; omega
    have hg1 : (L.length + 1) * 120 ≤ 140737488355328 := by omega
    have hg2 : L.length + 1 ≤ mx := by unfold mx; omega
    rcases hX with ⟨rfl,rfl,rfl⟩ | ⟨f1,L',x,ts,rows,n,i,hLe,rfl,hi,hn,rfl,hrows⟩
    · simp [e0,e4,e5,e6,hmp,hmp',irO,ret2,prO]
      refine call_grow (a := irO s (c + 1) a false) (i := 1) rfl (ir_func hl' ho1 _) (.cons .namep .nil) fun r O c2 hc2 ⟨o2,f,hr,hO,ho2,hf⟩ => ⟨o2,f.inn,.agg (TFunc.encO f),hO,by rw [ho2.tg]; rfl,by rw [hr]; exact .refl _,free_agg (TFunc.freeO f) _,ho2.av,fun o ho => TFunc.freeI f o ho _,?_⟩
      simp [e0,e4,e5,e6,hw,hg1,hg2,putA]
      exact ⟨by unfold mx; omega,hN _ _ _ _ (by omega) (List.Sublist.refl _) ⟨[f],m - 1,_,o2,_,_,by omega,ho2,by unfold FunI; simpa [hf] using hst,.inr ⟨f,[],_,c2 + 1,_,1,_,rfl,rfl,rfl,rfl,rfl,rfl⟩,by simp [upd,e0],by simp [upd,e2],by simp [upd,e4],by simp [upd,e5],by simp [upd],rfl⟩⟩
    · simp [e0,e4,e5,e6,hmp,hmp',irO,ret2,prO]
      refine call_grow (a := irO s (c + 1) a false) (i := 1) rfl (ir_func hl' ho1 _) (.cons .namep .nil) fun r O c2 hc2 ⟨o2,f,hr,hO,ho2,hf⟩ => ⟨o2,f.inn,.agg (TFunc.encO f),hO,by rw [ho2.tg]; rfl,by rw [hr]; exact .refl _,free_agg (TFunc.freeO f) _,ho2.av,fun o ho => TFunc.freeI f o ho _,?_⟩
      subst hi hn hrows
      generalize hT : L'.flatMap TFunc.inn = T
      simp [e0,e4,e5,e6,hw,hg1,hg2,putA,getW_of get_end]
      refine hN _ _ _ _ (by omega) (sub_end (U := (L' ++ [f]).flatMap TFunc.inn) (by rw [List.flatMap_append,hT]; simp)) ⟨L ++ [f],m - 1,_,o2,_,_,by omega,ho2,by unfold FunI; simpa [hf] using hst,.inr ⟨f1,L' ++ [f],x,c2 + 1,_,_,_,by rw [hLe]; rfl,rfl,rfl,by simp,rfl,by simp⟩,by simp [upd,e0],by simp [upd,e2],by simp [upd,e4],by simp [upd,e5],by simp [upd],rfl⟩
  · intro e H c' ⟨o1,X,R,L,ho1,hX,hLc,e0,e2,e4,e5,hH⟩
    subst hH
    replace hLc : L.map TFunc.con = (decF s.list).1 := hLc
    replace ho1 : ObI s (c + 1) (decF s.list).2 o1 := ho1
    refine seq_cut (fun e H c' => ∃ (o1 : AObj) (Y : AV) (R2 : List AObj) (K : List TClass) (σK : RSt),ObI s (c + 1) σK o1 ∧ ListAtP R 4 TClass.encO clsInn Y K R2 ∧ ClF (decK s.list) (rNum s.list (decF s.list).2).2 K σK ∧ e 0 = s.av 1 byteRow ∧ e 2 = .ptr 0 c 2 0 0 ∧ e 4 = .ptr 1 (c + 1) 3 0 0 ∧ e 5 = .ptr 2 (c + 1 + 1) 2 0 0 ∧
      H = ret2 c :: o1 :: prO (c + 1 + 1) X Y :: R2) ?_ ?_
    rotate_left
    · intro K hK
      simp [e4]
      refine call_ir (i := 1) rfl ho1 .int (ir_num hl' ho1 _) fun o2 c1 _ ho2 => ?_
      have hR : decK s.list = rRep (rClass s.list) (rNum s.list (decF s.list).2).1 (rNum s.list (decF s.list).2).2 := rfl
      have hnb : (rNum s.list (decF s.list).2).1 ≤ 1000000000000 := rNum_le s.list (decF s.list).2
      generalize (rNum s.list (decF s.list).2).1 = n0 at hR hnb
      generalize (rNum s.list (decF s.list).2).2 = σ0 at *
      simp [e0,e2,e4,e5]
      refine loop_drop n0 (fun k e H c' => ∃ (Kl : List TClass) (m : Nat) (σ1 : RSt) (o1 : AObj) (Y : AV) (R2 : List AObj),m = n0 - k ∧ ObI s (c + 1) σ1 o1 ∧ ClI (decK s.list) (rClass s.list) σ0 Kl m σ1 ∧ ListAtP R 4 TClass.encO clsInn Y Kl R2 ∧ e 0 = s.av 1 byteRow ∧ e 2 = .ptr 0 c 2 0 0 ∧ e 4 = .ptr 1 (c + 1) 3 0 0 ∧ e 5 = .ptr 2 (c + 1 + 1) 2 0 0 ∧ e 7 = .int .i64 m ∧ H = ret2 c :: o1 :: prO (c + 1 + 1) X Y :: R2) ⟨[],n0,σ0,o2,.nsl,R,by omega,ho2,by rw [hR]; exact ClI.nil,.inl ⟨rfl,rfl,rfl⟩,by simp [upd,e0],by simp [upd,e2],by simp [upd,e4],by simp [upd,e5],by simp [upd],rfl⟩ ?_
      clear e0 e2 e4 e5 e
      intro k e H c' hk ⟨Kl,m,σ1,o1,Y,R2,hm,ho1,hL,hY,e0,e2,e4,e5,e7,hH⟩ N hN
      subst hH
      by_cases hm0 : m = 0
      · subst hm0
        simp [e0,e4,e5,e7]
        exact hK _ _ _ ⟨o1,Y,R2,Kl,σ1,ho1,hY,hL.fin0,by simp [upd,e0],by simp [upd,e2],by simp [upd,e4],by simp [upd,e5],rfl⟩
      have hmp : (0 : Int) < (m : Int) := by omega
      have hmp' : 0 < m := by omega
      have ho1' := ho1
      obtain ⟨a,b,rfl,ha,hσ⟩ := ho1'
      rcases hσ with ⟨rfl,rfl⟩ | ⟨rfl,rfl⟩
      rotate_left
      · simp [e0,e4,e5,e7,hmp,hmp',irO]
        exact hK _ _ _ ⟨irO s (c + 1) a true,Y,R2,Kl,none,ho1,hY,hL.finN,by simp [upd,e0],by simp [upd,e2],by simp [upd,e4],by simp [upd,e5],rfl⟩
      have hLa := hL.len
      have hw : IntKind.i64.wrap ((m : Int) - 1) = ((m - 1 : Nat) : Int) := by rw [wrap64 (by omega) (by omega)]; omega
      have hg1 : (Kl.length + 1) * 80 ≤ 140737488355328 := by omega
      have hg2 : Kl.length + 1 ≤ mx := by unfold mx; omega
      rcases hY with ⟨rfl,rfl,rfl⟩ | ⟨f1,L',A,x,ts,rows,n,i,hA,hLe,rfl,hi,hn,rfl,hrows⟩
      · simp [e0,e4,e5,e7,hmp,hmp',irO,ret2,prO]
        refine call_grow (a := irO s (c + 1) a false) (i := 1) rfl (ir_class hU hl' ho1 _) (.cons .namep .nil) fun r O c2 hc2 ⟨o2,f,hr,hO,σ',ho2,hq⟩ => ⟨o2,clsInn f,.agg (TClass.encO f),hO,by rw [ho2.tg]; rfl,by rw [hr]; exact .refl _,free_agg (TClass.freeO f) _,ho2.av,av_clsInn f,?_⟩
        have hst := hL.step (n := m - 1) (by omega) hq
        simp [e0,e4,e5,e7,hw,hg1,hg2,putA,getW_of get_end2]
        exact ⟨by unfold mx; omega,hN _ _ _ _ (by omega) (List.Sublist.refl _) ⟨[f],m - 1,_,o2,_,_,by omega,ho2,hst,.inr ⟨f,[],R2 ++ clsInn f,⟨false,c2,4,[TClass.encO f]⟩,c2 + 1,[TClass.encO f],1,_,rfl,rfl,rfl,by simp; omega,rfl,by simp,rfl⟩,by simp [upd,e0],by simp [upd,e2],by simp [upd,e4],by simp [upd,e5],by simp [upd],rfl⟩⟩
      · simp [e0,e4,e5,e7,hmp,hmp',irO,ret2,prO]
        refine call_grow (a := irO s (c + 1) a false) (i := 1) rfl (ir_class hU hl' ho1 _) (.cons .namep .nil) fun r O c2 hc2 ⟨o2,f,hr,hO,σ',ho2,hq⟩ => ⟨o2,clsInn f,.agg (TClass.encO f),hO,by rw [ho2.tg]; rfl,by rw [hr]; exact .refl _,free_agg (TClass.freeO f) _,ho2.av,av_clsInn f,?_⟩
        have hst := hL.step (n := m - 1) (by omega) hq
        subst hi hn hrows
        generalize hT : L'.flatMap clsInn = T
        simp [e0,e4,e5,e7,hw,hg1,hg2,putA,getW_of get_end]
        refine hN _ _ _ _ (by omega) (sub_end (U := (L' ++ [f]).flatMap clsInn) (by rw [List.flatMap_append,hT]; simp)) ⟨Kl ++ [f],m - 1,_,o2,_,_,by omega,ho2,hst,.inr ⟨f1,L' ++ [f],A,x,c2 + 1,_,_,_,hA,by rw [hLe]; rfl,rfl,rfl,by simp,rfl,by simp⟩,by simp [upd,e0],by simp [upd,e2],by simp [upd,e4],by simp [upd,e5],by simp [upd],rfl⟩
    · intro e H c' ⟨o2,Y,R2,K,σK,ho2,hY,hK,e0,e2,e4,e5,hH⟩
      subst hH
      obtain ⟨SF,hSF,vX,cX,viX,pF⟩ := hX.p.sl
      obtain ⟨SK,hSK,vY,cY,viY,pK⟩ := hY.sl
      have no : ∀ {H : List AObj} {c' : Nat},¬ DecOk s.list → finW (fun r O _ => DecR s.list r O) (.tup [.agg [.nsl,.nsl],.bool false]) H c' := fun {H c'} h => fin_plain (.inr ⟨h,rfl⟩)
      obtain ⟨a,b,rfl,ha,hσ⟩ := ho2
      rcases hσ with ⟨rfl,rfl⟩ | ⟨rfl,rfl⟩
      rotate_left
      · simp [e0,e2,e4,e5,irO,ret2,prO,putA]
        refine no fun h => ?_
        rcases hK.ex with ⟨_,h2,_⟩ | ⟨h2,_⟩
        · rw [h.1] at h2; cases h2
        · rw [h.1] at h2; cases h2
      by_cases hal : a = s.list.length
      rotate_left
      · have hali : ¬ (a : Int) = (s.list.length : Int) := by omega
        simp [e0,e2,e4,e5,irO,ret2,prO,putA,hal,hali]
        refine no fun h => ?_
        rcases hK.ex with ⟨_,h2,_⟩ | ⟨h2,_⟩
        · rw [h.1] at h2; cases h2; exact hal rfl
        · rw [h.1] at h2; cases h2
      have hz : (⟨SF,SK⟩ : TProgram).sz ≤ 1048576 := by
        obtain ⟨a0,h0,z0⟩ := hK.sz a rfl
        obtain ⟨a1,h1,z1,l1⟩ := cons_of_some (cons_num s.list) h0
        obtain ⟨a2,h2,z2,l2⟩ := cons_of_some (cons_list (cons_func s.list)) (show (rList s.list (rFunc s.list) (some 0)).2 = some a1 from h1)
        have e1 : (⟨SF,SK⟩ : TProgram).sz = (L.length + szL TFunc.sz L) + (K.length + szL TClass.sz K) := by rw [← hSF,← hSK]; rfl
        have e2 : szL TFunc.sz (L.map TFunc.con) = szL TFunc.sz L := szL_congr fun x _ => TFunc.sz_con x
        have e3 : (L.map TFunc.con).length = L.length := by simp
        have hLc' : L.map TFunc.con = (rList s.list (rFunc s.list) (some 0)).1 := hLc
        rw [hLc'] at e2 e3
        rw [e1]
        omega
      have hcc : (decF s.list).1.map TFunc.con = (decF s.list).1 := by
        rw [← hLc,List.map_map]
        exact List.map_congr_left fun x _ => func_con2 x
      simp [e0,e2,e4,e5,irO,ret2,prO,hal]
      refine call_fn (impl_isProgram (prog_okz hz) hz) (.cons (viewG (.cons (viX _ TFunc.enc (fun x => TFunc.cells x) (fun _ => rfl) (fun x h => TFunc.viewO x h) fun o ho => ?_) (.cons (viY _ TClass.enc (fun x => TClass.cells x) (fun _ => rfl) (fun x h => cls_view x h) fun o ho => ?_) .nil)) (TProgram.cells ⟨SF,SK⟩)) .nil) .bool fun _ _ => ?_
      · simp [hY.pre o ho]
      · simp [ho]
      rcases hK.ex with ⟨h1,h2,h3⟩ | ⟨h1,h2⟩
      · have hcon : (⟨SF,SK⟩ : TProgram).con = (decP s.list).con := by
          simp [TProgram.con,SL.con,decP,hSF,hSK,hLc,hcc,h1]
        have hiff := (prog_same hcon).1
        by_cases hp : ProgOk ⟨SF,SK⟩
        · rw [pdec_true hp]
          simp [e0,e2,e4,e5,irO,ret2,prO,putA]
          obtain ⟨Hf,f1,f2⟩ := pF [] (List.nil_sublist _)
          obtain ⟨Hs,s1,s2⟩ := pK Hf f1
          refine ⟨[],_,_,.tup [.agg (TProgram.encO ⟨SF,SK⟩),.bool true],.refl _,.refl _ _,by simp,by simp [tags],view_tup (.cons (viewG (.cons vX (.cons vY .nil)) fun a ha => ?_) (.cons (.refl _) .nil)),.inl ⟨⟨SF,SK⟩,⟨by rw [h2,hal],hiff.1 hp⟩,rfl,hcon,Hs,.cons _ (.cons _ (.cons _ s1)),?_⟩⟩
          · simp [TProgram.encO] at ha
            rcases ha with rfl | rfl <;> exact cell_rfG _ _
          · have e : (⟨SF,SK⟩ : TProgram).inn = SF.wood 6 TFunc.encO TFunc.inn ++ SK.wood 4 TClass.encO clsInn := by
              rw [← wood_nil (S := SK) (by rw [hSK]; exact h3)]; rfl
            rw [e]
            exact (f2.append_right _).trans s2
        · rw [pdec_false hp]
          simp [e0,e2,e4,e5,irO,ret2,prO,putA]
          exact no fun h => hp (hiff.2 h.2)
      · have hp : ¬ ProgOk ⟨SF,SK⟩ := fun hh => by
          rcases h2 with h2 | ⟨k,hk,x,hx,hx4⟩
          · cases h2
          · have := inR_iff2 ((hh.cok k (by show k ∈ SK.list; rw [hSK]; exact hk)).fs x hx).kd
            omega
        rw [pdec_false hp]
        simp [e0,e2,e4,e5,irO,ret2,prO,putA]
        exact no fun h => by rw [h.1] at h1; cases h1
set_option maxRecDepth 100000
set_option maxHeartbeats 4000000 in
theorem os_decode (hU : ∀ x : List UInt8,x.length ≤ 1048576 → Tr Tryz.prog 124 [.str x] fun _ r => ∃ (v : TValue) (ok : Bool),r = .tup [.agg v.enc,.bool ok] ∧ UserQ x v ok)
    {s : SL UInt8} (hl : s.list.length ≤ 24000) (c : Nat) : Con Tryz.prog 42 [s.av 1 byteRow] [] c fun r O _ => DecR s.list r O := by
  have hl' : s.list.length ≤ 1048576 := by omega
  refine con_of c42 (by simp [F42]) ?_
  unfold F42
  rw [irW_assoc,irW_assoc,irW_assoc]
  refine seq_cut (fun e H c' => ∃ (o1 : AObj) (X : AV) (R : List AObj) (L : List TFunc),ObS s (c + 1) (rList s.list (rFunc s.list) (some 0)).2 o1 ∧ ListAt 3 6 TFunc.encO TFunc.inn X L R ∧ L.map TFunc.con = (rList s.list (rFunc s.list) (some 0)).1 ∧ e 0 = s.av 1 byteRow ∧ e 2 = .ptr 0 c 2 0 0 ∧ e 4 = .ptr 1 (c + 1) 2 0 0 ∧ e 5 = .ptr 2 (c + 1 + 1) 2 0 0 ∧
    H = ret2 c :: o1 :: prO (c + 1 + 1) X .nsl :: R) ?_ ?_
  rotate_left
  · intro K hK
    have ho0 : ObS s (c + 1) (some 0) (osO s (c + 1) 0 false) := ⟨0,false,rfl,Nat.zero_le _,.inl ⟨rfl,rfl⟩⟩
    simp [putA]
    refine call_os (i := 1) (o := osO s (c + 1) 0 false) rfl ho0 .int (os_num hl' ho0 _) fun o1 c1 _ ho1 => ?_
    have hR : rList s.list (rFunc s.list) (some 0) = rRep (rFunc s.list) (rNum s.list (some 0)).1 (rNum s.list (some 0)).2 := rfl
    have hnb : (rNum s.list (some 0)).1 ≤ 1000000000000 := rNum_le s.list (some 0)
    generalize (rNum s.list (some 0)).1 = n0 at hR hnb
    generalize (rNum s.list (some 0)).2 = σ0 at hR ho1
    simp
    refine loop_drop n0 (fun k e H c' => ∃ (L : List TFunc) (m : Nat) (σ1 : RSt) (o1 : AObj) (X : AV) (R : List AObj),m = n0 - k ∧ ObS s (c + 1) σ1 o1 ∧ FunI (rList s.list (rFunc s.list) (some 0)) (rFunc s.list) L m σ1 ∧ ListAt 3 6 TFunc.encO TFunc.inn X L R ∧ e 0 = s.av 1 byteRow ∧ e 2 = .ptr 0 c 2 0 0 ∧ e 4 = .ptr 1 (c + 1) 2 0 0 ∧ e 5 = .ptr 2 (c + 1 + 1) 2 0 0 ∧ e 6 = .int .i64 m ∧ H = ret2 c :: o1 :: prO (c + 1 + 1) X .nsl :: R) ⟨[],n0,σ0,o1,.nsl,[],by omega,ho1,by rw [hR]; exact RepAt.nil,.inl ⟨rfl,rfl,rfl⟩,by simp [upd],by simp [upd],by simp [upd],by simp [upd],by simp [upd],rfl⟩ ?_
    intro k e H c' hk ⟨L,m,σ1,o1,X,R,hm,ho1,hL,hX,e0,e2,e4,e5,e6,hH⟩ N hN
    subst hH
    by_cases hm0 : m = 0
    · subst hm0
      have hz := RepAt.zero hL
      simp [e0,e4,e5,e6]
      exact hK _ _ _ ⟨o1,X,R,L,by rw [hz]; exact ho1,hX,by rw [hz],by simp [upd,e0],by simp [upd,e2],by simp [upd,e4],by simp [upd,e5],rfl⟩
    have hmp : (0 : Int) < (m : Int) := by omega
    have hmp' : 0 < m := by omega
    have ho1' := ho1
    obtain ⟨a,b,rfl,ha,hσ⟩ := ho1'
    rcases hσ with ⟨rfl,rfl⟩ | ⟨rfl,rfl⟩
    rotate_left
    · have hz := RepAt.none hL
      simp [e0,e4,e5,e6,hmp,hmp',osO]
      exact hK _ _ _ ⟨osO s (c + 1) a true,X,R,L,by rw [hz]; exact ho1,hX,by rw [hz],by simp [upd,e0],by simp [upd,e2],by simp [upd,e4],by simp [upd,e5],rfl⟩
    have hLa : L.length ≤ a := by have := hL.2 a rfl; simpa using this
    have hst := RepAt.step (cons_func s.list) hL (n := m - 1) (by omega)
    have hw : IntKind.i64.wrap ((m : Int) - 1) = ((m - 1 : Nat) : Int) := by rw [wrap64 (by omega) (by omega)]; omega
    have hg1 : (L.length + 1) * 120 ≤ 140737488355328 := by omega
    have hg2 : L.length + 1 ≤ mx := by unfold mx; omega
    rcases hX with ⟨rfl,rfl,rfl⟩ | ⟨f1,L',x,ts,rows,n,i,hLe,rfl,hi,hn,rfl,hrows⟩
    · simp [e0,e4,e5,e6,hmp,hmp',osO,ret2,prO]
      refine call_grow (a := osO s (c + 1) a false) (i := 1) rfl (os_func hl' ho1 _) (.cons .namep .nil) fun r O c2 hc2 ⟨o2,f,hr,hO,ho2,hf⟩ => ⟨o2,f.inn,.agg (TFunc.encO f),hO,by rw [ho2.tg]; rfl,by rw [hr]; exact .refl _,free_agg (TFunc.freeO f) _,ho2.av,fun o ho => TFunc.freeI f o ho _,?_⟩
      simp [e0,e4,e5,e6,hw,hg1,hg2,putA]
      exact ⟨by unfold mx; omega,hN _ _ _ _ (by omega) (List.Sublist.refl _) ⟨[f],m - 1,_,o2,_,_,by omega,ho2,by unfold FunI; simpa [hf] using hst,.inr ⟨f,[],_,c2 + 1,_,1,_,rfl,rfl,rfl,rfl,rfl,rfl⟩,by simp [upd,e0],by simp [upd,e2],by simp [upd,e4],by simp [upd,e5],by simp [upd],rfl⟩⟩
    · simp [e0,e4,e5,e6,hmp,hmp',osO,ret2,prO]
      refine call_grow (a := osO s (c + 1) a false) (i := 1) rfl (os_func hl' ho1 _) (.cons .namep .nil) fun r O c2 hc2 ⟨o2,f,hr,hO,ho2,hf⟩ => ⟨o2,f.inn,.agg (TFunc.encO f),hO,by rw [ho2.tg]; rfl,by rw [hr]; exact .refl _,free_agg (TFunc.freeO f) _,ho2.av,fun o ho => TFunc.freeI f o ho _,?_⟩
      subst hi hn hrows
      generalize hT : L'.flatMap TFunc.inn = T
      simp [e0,e4,e5,e6,hw,hg1,hg2,putA,getW_of get_end]
      refine hN _ _ _ _ (by omega) (sub_end (U := (L' ++ [f]).flatMap TFunc.inn) (by rw [List.flatMap_append,hT]; simp)) ⟨L ++ [f],m - 1,_,o2,_,_,by omega,ho2,by unfold FunI; simpa [hf] using hst,.inr ⟨f1,L' ++ [f],x,c2 + 1,_,_,_,by rw [hLe]; rfl,rfl,rfl,by simp,rfl,by simp⟩,by simp [upd,e0],by simp [upd,e2],by simp [upd,e4],by simp [upd,e5],by simp [upd],rfl⟩
  · intro e H c' ⟨o1,X,R,L,ho1,hX,hLc,e0,e2,e4,e5,hH⟩
    subst hH
    replace hLc : L.map TFunc.con = (decF s.list).1 := hLc
    replace ho1 : ObS s (c + 1) (decF s.list).2 o1 := ho1
    refine seq_cut (fun e H c' => ∃ (o1 : AObj) (Y : AV) (R2 : List AObj) (K : List TClass) (σK : RSt),ObS s (c + 1) σK o1 ∧ ListAtP R 4 TClass.encO clsInn Y K R2 ∧ ClF (decK s.list) (rNum s.list (decF s.list).2).2 K σK ∧ e 0 = s.av 1 byteRow ∧ e 2 = .ptr 0 c 2 0 0 ∧ e 4 = .ptr 1 (c + 1) 2 0 0 ∧ e 5 = .ptr 2 (c + 1 + 1) 2 0 0 ∧
      H = ret2 c :: o1 :: prO (c + 1 + 1) X Y :: R2) ?_ ?_
    rotate_left
    · intro K hK
      simp [e4]
      refine call_os (i := 1) rfl ho1 .int (os_num hl' ho1 _) fun o2 c1 _ ho2 => ?_
      have hR : decK s.list = rRep (rClass s.list) (rNum s.list (decF s.list).2).1 (rNum s.list (decF s.list).2).2 := rfl
      have hnb : (rNum s.list (decF s.list).2).1 ≤ 1000000000000 := rNum_le s.list (decF s.list).2
      generalize (rNum s.list (decF s.list).2).1 = n0 at hR hnb
      generalize (rNum s.list (decF s.list).2).2 = σ0 at *
      simp [e0,e2,e4,e5]
      refine loop_drop n0 (fun k e H c' => ∃ (Kl : List TClass) (m : Nat) (σ1 : RSt) (o1 : AObj) (Y : AV) (R2 : List AObj),m = n0 - k ∧ ObS s (c + 1) σ1 o1 ∧ ClI (decK s.list) (rClass s.list) σ0 Kl m σ1 ∧ ListAtP R 4 TClass.encO clsInn Y Kl R2 ∧ e 0 = s.av 1 byteRow ∧ e 2 = .ptr 0 c 2 0 0 ∧ e 4 = .ptr 1 (c + 1) 2 0 0 ∧ e 5 = .ptr 2 (c + 1 + 1) 2 0 0 ∧ e 7 = .int .i64 m ∧ H = ret2 c :: o1 :: prO (c + 1 + 1) X Y :: R2) ⟨[],n0,σ0,o2,.nsl,R,by omega,ho2,by rw [hR]; exact ClI.nil,.inl ⟨rfl,rfl,rfl⟩,by simp [upd,e0],by simp [upd,e2],by simp [upd,e4],by simp [upd,e5],by simp [upd],rfl⟩ ?_
      clear e0 e2 e4 e5 e
      intro k e H c' hk ⟨Kl,m,σ1,o1,Y,R2,hm,ho1,hL,hY,e0,e2,e4,e5,e7,hH⟩ N hN
      subst hH
      by_cases hm0 : m = 0
      · subst hm0
        simp [e0,e4,e5,e7]
        exact hK _ _ _ ⟨o1,Y,R2,Kl,σ1,ho1,hY,hL.fin0,by simp [upd,e0],by simp [upd,e2],by simp [upd,e4],by simp [upd,e5],rfl⟩
      have hmp : (0 : Int) < (m : Int) := by omega
      have hmp' : 0 < m := by omega
      have ho1' := ho1
      obtain ⟨a,b,rfl,ha,hσ⟩ := ho1'
      rcases hσ with ⟨rfl,rfl⟩ | ⟨rfl,rfl⟩
      rotate_left
      · simp [e0,e4,e5,e7,hmp,hmp',osO]
        exact hK _ _ _ ⟨osO s (c + 1) a true,Y,R2,Kl,none,ho1,hY,hL.finN,by simp [upd,e0],by simp [upd,e2],by simp [upd,e4],by simp [upd,e5],rfl⟩
      have hLa := hL.len
      have hw : IntKind.i64.wrap ((m : Int) - 1) = ((m - 1 : Nat) : Int) := by rw [wrap64 (by omega) (by omega)]; omega
      have hg1 : (Kl.length + 1) * 80 ≤ 140737488355328 := by omega
      have hg2 : Kl.length + 1 ≤ mx := by unfold mx; omega
      rcases hY with ⟨rfl,rfl,rfl⟩ | ⟨f1,L',A,x,ts,rows,n,i,hA,hLe,rfl,hi,hn,rfl,hrows⟩
      · simp [e0,e4,e5,e7,hmp,hmp',osO,ret2,prO]
        refine call_grow (a := osO s (c + 1) a false) (i := 1) rfl (os_class hU hl' ho1 _) (.cons .namep .nil) fun r O c2 hc2 ⟨o2,f,hr,hO,σ',ho2,hq⟩ => ⟨o2,clsInn f,.agg (TClass.encO f),hO,by rw [ho2.tg]; rfl,by rw [hr]; exact .refl _,free_agg (TClass.freeO f) _,ho2.av,av_clsInn f,?_⟩
        have hst := hL.step (n := m - 1) (by omega) hq
        simp [e0,e4,e5,e7,hw,hg1,hg2,putA,getW_of get_end2]
        exact ⟨by unfold mx; omega,hN _ _ _ _ (by omega) (List.Sublist.refl _) ⟨[f],m - 1,_,o2,_,_,by omega,ho2,hst,.inr ⟨f,[],R2 ++ clsInn f,⟨false,c2,4,[TClass.encO f]⟩,c2 + 1,[TClass.encO f],1,_,rfl,rfl,rfl,by simp; omega,rfl,by simp,rfl⟩,by simp [upd,e0],by simp [upd,e2],by simp [upd,e4],by simp [upd,e5],by simp [upd],rfl⟩⟩
      · simp [e0,e4,e5,e7,hmp,hmp',osO,ret2,prO]
        refine call_grow (a := osO s (c + 1) a false) (i := 1) rfl (os_class hU hl' ho1 _) (.cons .namep .nil) fun r O c2 hc2 ⟨o2,f,hr,hO,σ',ho2,hq⟩ => ⟨o2,clsInn f,.agg (TClass.encO f),hO,by rw [ho2.tg]; rfl,by rw [hr]; exact .refl _,free_agg (TClass.freeO f) _,ho2.av,av_clsInn f,?_⟩
        have hst := hL.step (n := m - 1) (by omega) hq
        subst hi hn hrows
        generalize hT : L'.flatMap clsInn = T
        simp [e0,e4,e5,e7,hw,hg1,hg2,putA,getW_of get_end]
        refine hN _ _ _ _ (by omega) (sub_end (U := (L' ++ [f]).flatMap clsInn) (by rw [List.flatMap_append,hT]; simp)) ⟨Kl ++ [f],m - 1,_,o2,_,_,by omega,ho2,hst,.inr ⟨f1,L' ++ [f],A,x,c2 + 1,_,_,_,hA,by rw [hLe]; rfl,rfl,rfl,by simp,rfl,by simp⟩,by simp [upd,e0],by simp [upd,e2],by simp [upd,e4],by simp [upd,e5],by simp [upd],rfl⟩
    · intro e H c' ⟨o2,Y,R2,K,σK,ho2,hY,hK,e0,e2,e4,e5,hH⟩
      subst hH
      obtain ⟨SF,hSF,vX,cX,viX,pF⟩ := hX.p.sl
      obtain ⟨SK,hSK,vY,cY,viY,pK⟩ := hY.sl
      have no : ∀ {H : List AObj} {c' : Nat},¬ DecOk s.list → finW (fun r O _ => DecR s.list r O) (.tup [.agg [.nsl,.nsl],.bool false]) H c' := fun {H c'} h => fin_plain (.inr ⟨h,rfl⟩)
      obtain ⟨a,b,rfl,ha,hσ⟩ := ho2
      rcases hσ with ⟨rfl,rfl⟩ | ⟨rfl,rfl⟩
      rotate_left
      · have hne : ¬ (-1 : Int) = (s.list.length : Int) := by omega
        simp [e0,e2,e4,e5,osO,ret2,prO,putA,hne]
        refine no fun h => ?_
        rcases hK.ex with ⟨_,h2,_⟩ | ⟨h2,_⟩
        · rw [h.1] at h2; cases h2
        · rw [h.1] at h2; cases h2
      by_cases hal : a = s.list.length
      rotate_left
      · have hali : ¬ (a : Int) = (s.list.length : Int) := by omega
        simp [e0,e2,e4,e5,osO,ret2,prO,putA,hal,hali]
        refine no fun h => ?_
        rcases hK.ex with ⟨_,h2,_⟩ | ⟨h2,_⟩
        · rw [h.1] at h2; cases h2; exact hal rfl
        · rw [h.1] at h2; cases h2
      have hz : (⟨SF,SK⟩ : TProgram).sz ≤ 1048576 := by
        obtain ⟨a0,h0,z0⟩ := hK.sz a rfl
        obtain ⟨a1,h1,z1,l1⟩ := cons_of_some (cons_num s.list) h0
        obtain ⟨a2,h2,z2,l2⟩ := cons_of_some (cons_list (cons_func s.list)) (show (rList s.list (rFunc s.list) (some 0)).2 = some a1 from h1)
        have e1 : (⟨SF,SK⟩ : TProgram).sz = (L.length + szL TFunc.sz L) + (K.length + szL TClass.sz K) := by rw [← hSF,← hSK]; rfl
        have e2 : szL TFunc.sz (L.map TFunc.con) = szL TFunc.sz L := szL_congr fun x _ => TFunc.sz_con x
        have e3 : (L.map TFunc.con).length = L.length := by simp
        have hLc' : L.map TFunc.con = (rList s.list (rFunc s.list) (some 0)).1 := hLc
        rw [hLc'] at e2 e3
        rw [e1]
        omega
      have hcc : (decF s.list).1.map TFunc.con = (decF s.list).1 := by
        rw [← hLc,List.map_map]
        exact List.map_congr_left fun x _ => func_con2 x
      simp [e0,e2,e4,e5,osO,ret2,prO,hal]
      refine call_fn (spec_isProgram (prog_okz hz) hz) (.cons (viewG (.cons (viX _ TFunc.enc (fun x => TFunc.cells x) (fun _ => rfl) (fun x h => TFunc.viewO x h) fun o ho => ?_) (.cons (viY _ TClass.enc (fun x => TClass.cells x) (fun _ => rfl) (fun x h => cls_view x h) fun o ho => ?_) .nil)) (TProgram.cells ⟨SF,SK⟩)) .nil) .bool fun _ _ => ?_
      · simp [hY.pre o ho]
      · simp [ho]
      rcases hK.ex with ⟨h1,h2,h3⟩ | ⟨h1,h2⟩
      · have hcon : (⟨SF,SK⟩ : TProgram).con = (decP s.list).con := by
          simp [TProgram.con,SL.con,decP,hSF,hSK,hLc,hcc,h1]
        have hiff := (prog_same hcon).1
        by_cases hp : ProgOk ⟨SF,SK⟩
        · rw [pdec_true hp]
          simp [e0,e2,e4,e5,osO,ret2,prO,putA]
          obtain ⟨Hf,f1,f2⟩ := pF [] (List.nil_sublist _)
          obtain ⟨Hs,s1,s2⟩ := pK Hf f1
          refine ⟨[],_,_,.tup [.agg (TProgram.encO ⟨SF,SK⟩),.bool true],.refl _,.refl _ _,by simp,by simp [tags],view_tup (.cons (viewG (.cons vX (.cons vY .nil)) fun a ha => ?_) (.cons (.refl _) .nil)),.inl ⟨⟨SF,SK⟩,⟨by rw [h2,hal],hiff.1 hp⟩,rfl,hcon,Hs,.cons _ (.cons _ (.cons _ s1)),?_⟩⟩
          · simp [TProgram.encO] at ha
            rcases ha with rfl | rfl <;> exact cell_rfG _ _
          · have e : (⟨SF,SK⟩ : TProgram).inn = SF.wood 6 TFunc.encO TFunc.inn ++ SK.wood 4 TClass.encO clsInn := by
              rw [← wood_nil (S := SK) (by rw [hSK]; exact h3)]; rfl
            rw [e]
            exact (f2.append_right _).trans s2
        · rw [pdec_false hp]
          simp [e0,e2,e4,e5,osO,ret2,prO,putA]
          exact no fun h => hp (hiff.2 h.2)
      · have hp : ¬ ProgOk ⟨SF,SK⟩ := fun hh => by
          rcases h2 with h2 | ⟨k,hk,x,hx,hx4⟩
          · cases h2
          · have := inR_iff2 ((hh.cok k (by show k ∈ SK.list; rw [hSK]; exact hk)).fs x hx).kd
            omega
        rw [pdec_false hp]
        simp [e0,e2,e4,e5,osO,ret2,prO,putA]
        exact no fun h => by rw [h.1] at h1; cases h1
set_option maxRecDepth 100000
theorem and255 {n : Nat} (h : n < 9223372036854775808) : andN (n : Int) 255 = ((n % 256 : Nat) : Int) := by
  have := andN_nat (b := 255) h (by omega)
  rw [show ((255 : Nat) : Int) = 255 from rfl] at this
  rw [this,show (255 : Nat) = 2 ^ 8 - 1 from rfl,Nat.and_two_pow_sub_one_eq_mod]
set_option maxHeartbeats 2000000 in
theorem spec_unp {l : SL Int} (hl : l.list.length ≤ 1048576) : Tr Tryz.prog 41 [l.av 1 encI] fun _ r => UnpQ l.list r := by
  intro c
  refine con_of c41 (by simp [F41]) ?_
  unfold F41
  have none_of : ∀ {a : Int} {t : List Int},¬ (0 ≤ a ∧ a ≤ 24000 ∧ (t.length : Int) = (a + 5) / 6 ∧ t.all wOk = true ∧ ((t.flatMap w6).drop a.toNat).all (fun x => decide (x.toNat = 0)) = true) → unpack (a :: t) = none := fun h => by rw [unpack,if_neg h]
  have some_of : ∀ {a : Int} {t : List Int},(0 ≤ a ∧ a ≤ 24000 ∧ (t.length : Int) = (a + 5) / 6 ∧ t.all wOk = true ∧ ((t.flatMap w6).drop a.toNat).all (fun x => decide (x.toNat = 0)) = true) → unpack (a :: t) = some ((t.flatMap w6).take a.toNat) := fun {a t} h => by rw [unpack,if_pos h]
  generalize hb : l.list = b at *
  cases b with
  | nil =>
    simp [hb]
    exact fin_empB (i := 0) (Nat.le_refl c) rfl rfl
  | cons a t =>
  have g0 : l.list[0]? = some a := by rw [hb]; rfl
  have hl' : t.length ≤ 1048576 := by simp at hl; omega
  have nz : ¬ (t.length : Int) + 1 = 0 := by omega
  by_cases h1 : inR a 0 24000 = true
  rotate_left
  · have h1f : inR a 0 24000 = false := by simpa using h1
    simp [hb,nz,getW_of g0]
    refine call_fn0 (l1In_fn _ _ _) .bool fun _ _ => ?_
    rw [h1f]
    simp
    exact fin_empB (i := 0) (Nat.le_refl c) rfl (none_of fun h => by
      have : inR a 0 24000 = true := by simp [inR]; omega
      rw [h1f] at this
      cases this)
  have h1' := inR_iff2 h1
  obtain ⟨n0,rfl⟩ : ∃ n0 : Nat,a = n0 := ⟨a.toNat,by omega⟩
  have w1 : IntKind.i64.wrap ((n0 : Int) + 5) = ((n0 + 5 : Nat) : Int) := by rw [wrap64 (by omega) (by omega)]; omega
  have w2 : (((n0 + 5 : Nat) : Int)).tdiv 6 = (((n0 + 5) / 6 : Nat) : Int) := by rw [Int.tdiv_eq_ediv_of_nonneg (by omega)]; omega
  have w3 : IntKind.i64.wrap (((n0 + 5) / 6 : Nat) : Int) = (((n0 + 5) / 6 : Nat) : Int) := wrap64 (by omega) (by omega)
  have w4 : IntKind.i64.wrap ((((n0 + 5) / 6 : Nat) : Int) + 1) = (((n0 + 5) / 6 + 1 : Nat) : Int) := by rw [wrap64 (by omega) (by omega)]; omega
  have h24 : n0 ≤ 24000 := by omega
  generalize hq6 : (n0 + 5) / 6 = q6 at w2 w3 w4
  have hq6' : ((n0 : Int) + 5) / 6 = q6 := by omega
  simp [hb,nz,getW_of g0]
  refine call_fn0 (l1In_fn _ _ _) .bool fun c1 hc1 => ?_
  rw [h1]
  by_cases h2 : t.length = q6
  rotate_left
  · have h2' : ¬ ((t.length + 1 : Nat) : Int) = ((q6 + 1 : Nat) : Int) := by omega
    have h2n : ¬ (t.length : Int) + 1 = (q6 : Int) + 1 := by omega
    have h2m : ¬ (t.length : Int) + 1 = ((q6 + 1 : Nat) : Int) := by omega
    simp [hb,getW_of g0,w1,w2,w3,w4,h2',h2n,h2m,-Int.natCast_add,-Int.natCast_ediv]
    exact fin_empB (i := 0) (Nat.le_refl c) rfl (none_of fun h => h2 (by have := h.2.2.1; omega))
  have h2' : t.length + 1 = q6 + 1 := by omega
  have h2n : (t.length : Int) + 1 = (q6 : Int) + 1 := by omega
  have h2m : (t.length : Int) + 1 = ((q6 + 1 : Nat) : Int) := by omega
  simp [hb,getW_of g0,w1,w2,w3,w4,h2',h2n,h2m,-Int.natCast_add,-Int.natCast_ediv]
  refine loop_drop t.length (fun j e H c' => ∃ (tb L J : Nat) (B : List UInt8),c ≤ c' ∧ c ≤ tb ∧ L = 6 * j ∧ J = j + 1 ∧ B.length = L ∧ B = (t.take j).flatMap w6 ∧ (t.take j).all wOk = true ∧ e 0 = l.av 1 encI ∧ e 5 = .int .i64 (J : Int) ∧ e 4 = .ref 0 tb 1 L ∧ H = [⟨false,tb,1,B.map byteRow⟩]) ⟨c,0,1,[],by omega,by omega,rfl,rfl,rfl,rfl,rfl,by simp [upd],by simp [upd],by simp [upd],rfl⟩ ?_
  intro j e H c' hj ⟨tb,L,J,B,hc',htb,hL,hJ,hBl,hB,hok,e0,e5,e4,hH⟩ N hN
  subst hH
  have gJ : ((n0 : Int) :: t)[J]? = t[j]? := by rw [hJ]; rfl
  by_cases h : j < t.length
  rotate_left
  · have hje : j = t.length := by omega
    subst hje
    rw [List.take_length] at hB hok
    have hnL : n0 ≤ L := by omega
    have hJn : ¬ (J : Int) < (t.length : Int) + 1 := by omega
    simp [e0,e5,e4,hb,hJn,getW_of g0]
    refine loop_drop (L - n0) (fun i e H c' => ∃ I : Nat,I = n0 + i ∧ c ≤ c' ∧ e 0 = l.av 1 encI ∧ e 4 = .ref 0 tb 1 L ∧ e 7 = .int .i64 (I : Int) ∧ (∀ x,x ∈ (B.drop n0).take i → x.toNat = 0) ∧ H = [⟨false,tb,1,B.map byteRow⟩]) ⟨n0,by omega,by omega,by simp [upd,e0],by simp [upd,e4],by simp [upd],by simp,rfl⟩ ?_
    clear e0 e5 e4 e
    intro i e H c2 hi ⟨I,hI,hcc,e0,e4,e7,hz,hH⟩ M hM
    subst hH
    by_cases hin : i < L - n0
    · obtain ⟨x,hx⟩ : ∃ x,B[I]? = some x := ⟨_,List.getElem?_eq_getElem (by omega)⟩
      have hx' : (B.map byteRow)[I]? = some (byteRow x) := by rw [List.getElem?_map,hx]; rfl
      have hd : (B.drop n0)[i]? = some x := by rw [List.getElem?_drop,← hI]; exact hx
      have hin' : I < L := by omega
      by_cases hx0 : x.toNat = 0
      · simp [e0,e4,e7,hin',getW_of hx',hx0]
        refine hM _ _ [_] _ hin (List.Sublist.refl _) ⟨I + 1,by omega,hcc,by simp [upd,e0],by simp [upd,e4],by simp [upd]; exact step64 (n := L) (by unfold mx; omega) hin',?_,rfl⟩
        intro y hy
        rw [List.take_succ_eq_append_getElem (by simp; omega),List.mem_append,List.mem_singleton] at hy
        rcases hy with hy | rfl
        · exact hz y hy
        · rw [(List.getElem?_eq_some_iff.1 hd).2]; exact hx0
      · simp [e0,e4,e7,hin',getW_of hx',hx0]
        refine fin_empB (i := 1) (t := c2) (by omega) rfl (none_of fun hh => by
          have h5 := hh.2.2.2.2
          rw [← hB,Int.toNat_natCast,List.all_eq_true] at h5
          have := h5 x (List.mem_of_getElem? hd)
          simp at this
          exact hx0 (by rw [this]))
    · have hie : i = L - n0 := by omega
      subst hie
      rw [List.take_of_length_le (by simp; omega)] at hz
      have hIL : ¬ I < L := by omega
      simp [e0,e4,e7,hIL,hnL,getW_of g0]
      have hu := some_of (a := (n0 : Int)) (t := t) ⟨by omega,by omega,by omega,hok,by
        rw [← hB,Int.toNat_natCast,List.all_eq_true]
        exact fun x hx => decide_eq_true (hz x hx)⟩
      rw [Int.toNat_natCast,← hB] at hu
      exact fin_cutB htb rfl (by omega) hu
  obtain ⟨n,hx⟩ : ∃ n,t[j]? = some n := ⟨_,List.getElem?_eq_getElem h⟩
  rw [hx] at gJ
  have hmem := List.mem_of_getElem? hx
  have hJl : (J : Int) < (t.length : Int) + 1 := by omega
  simp [e0,e5,e4,hb,hJl,getW_of gJ]
  refine call_fn0 (l1In_fn _ _ _) .bool fun c2 hc2 => ?_
  have hiw : inR n 0 281474976710655 = wOk n := by unfold inR wOk; congr 1; simp; omega
  rw [hiw]
  cases hw : wOk n
  · simp
    exact fin_empB (i := 1) (t := c2) (by omega) rfl (none_of fun hh => by
      have := List.all_eq_true.1 hh.2.2.2.1 n hmem
      rw [hw] at this
      cases this)
  have hw' : 0 ≤ n ∧ n < 281474976710656 := by simpa [wOk] using hw
  obtain ⟨m,rfl⟩ : ∃ m : Nat,n = m := ⟨n.toNat,by omega⟩
  simp [e0,e5,e4,hb,hJl,getW_of gJ]
  refine loop_drop 6 (fun k e H c' => ∃ (tb : Nat) (R : List UInt8),c ≤ c' ∧ c ≤ tb ∧ R = B ++ (w6 (m : Int)).take k ∧ R.length = L + k ∧ e 0 = l.av 1 encI ∧ e 5 = .int .i64 (J : Int) ∧ e 4 = .ref 0 tb 1 R.length ∧ e 6 = .int .i64 (5 - (k : Int)) ∧ H = [⟨false,tb,1,R.map byteRow⟩]) ⟨tb,B,by omega,htb,by simp,by omega,by simp [upd,e0],by simp [upd,e5],by simp [upd,e4,hBl],by simp [upd],rfl⟩ ?_
  clear e0 e5 e4 e
  intro k e H c2 hk ⟨tb2,R,hc2,htb2,hR,hRl,e0,e5,e4,e6,hH⟩ M hM
  subst hH
  by_cases hk6 : k < 6
  · have hge : (0 : Int) ≤ 5 - (k : Int) := by omega
    have hge8 : (k : Int) ≤ 5 := by omega
    have hmul : IntKind.i64.wrap (8 * (5 - (k : Int))) = 40 - 8 * (k : Int) := by rw [wrap64 (by omega) (by omega)]; omega
    have hsh := fun K => shr8 (n := m) hk6 K
    have hst := w6_step (m : Int) hk6
    rw [Int.toNat_natCast] at hst
    have hyl : m / 256 ^ (5 - k) ≤ m := Nat.div_le_self _ _
    generalize hy : m / 256 ^ (5 - k) = y at hsh hst hyl
    have hand := and255 (n := y) (by omega)
    have hg1 : R.length + 1 ≤ 140737488355328 := by omega
    have hg2 : R.length + 1 ≤ mx := by unfold mx; omega
    have hdec : IntKind.i64.wrap (5 - (k : Int) - 1) = 5 - ((k + 1 : Nat) : Int) := by rw [wrap64 (by omega) (by omega)]; omega
    simp [e0,e5,e4,e6,hb,hge,hge8,hmul,hsh,intW_andN,hand,hg1,hg2,hdec,getW_of gJ,-Int.natCast_add,-Int.natCast_emod]
    refine hM _ _ [⟨false,c2 + 1,1,(R ++ [UInt8.ofNat y]).map byteRow⟩] _ hk6 ?_ ⟨c2 + 1,R ++ [UInt8.ofNat y],by omega,by omega,by rw [hst,hR,List.append_assoc],by simp; omega,by simp [upd,e0],by simp [upd,e5],by simp [upd],by simp [upd,-Int.natCast_add],rfl⟩
    simp [byteRow]
    rw [IntKind.wrap_u8]
    omega
  · have hke : k = 6 := by omega
    subst hke
    have hlt : ¬ (0 : Int) ≤ 5 - ((6 : Nat) : Int) := by omega
    have h6 : (w6 (m : Int)).take 6 = w6 (m : Int) := List.take_of_length_le (Nat.le_of_eq (w6_len _))
    have htk : t.take (j + 1) = t.take j ++ [(m : Int)] := by rw [List.take_succ_eq_append_getElem h,(List.getElem?_eq_some_iff.1 hx).2]
    simp [e0,e5,e4,e6]
    exact hN _ _ [⟨false,tb2,1,R.map byteRow⟩] _ h (by simp) ⟨tb2,L + 6,J + 1,R,by omega,by omega,by omega,by omega,by omega,by rw [hR,h6,hB,htk]; simp,by rw [htk]; simp [hok,hw],by simp [upd,e0],by simp [upd]; exact step64 (n := t.length + 1) (by unfold mx; omega) (by omega),by simp [upd,e4,hRl],rfl⟩
set_option maxRecDepth 100000
def readsL (at_ ver : Int) (l : List TLine) : Bool :=
  areLines l && inR at_ 0 (l.length - 1) && (match l[at_.toNat]? with | some x => decide (x.Seq.tmod 2 ≠ 1) && decide (x.Version = ver) | none => false) && decide (1 ≤ ver)
def readL (at_ ver : Int) (l : List TLine) : List Int := if readsL at_ ver l then (match l[at_.toNat]? with | some x => x.Words.list | none => []) else []
def ReadQ (at_ ver : Int) (l : List TLine) (x : SL Int) (r : List AV) : Prop := x.list = readL at_ ver l ∧ r = [.bool (readsL at_ ver l)]
theorem readL_no {at_ ver : Int} {l : List TLine} (h : readsL at_ ver l = false) : readL at_ ver l = [] := by unfold readL; rw [h]; rfl
theorem spec_readO {s : SL TLine} {at_ ver : Int} (hn : s.list.length ≤ 1048576) (hz : ∀ x,x ∈ s.list → x.Words.list.length ≤ 1048576) (c : Nat) :
    Con Tryz.prog 40 [s.av 4 TLine.enc,.int .i64 at_,.int .i64 ver] [] c fun r O _ => ∃ (x : SL Int) (l : List AV),r = .tup (x.ref 1 :: l) ∧ O = x.wood 1 encI noInn ∧ ReadQ at_ ver s.list x l := by
  refine con_of c40 (by simp [F40]) ?_
  unfold F40
  simp
  refine call_fn0 (spec_areLines (by unfold mx; omega)) .bool fun cc _ => ?_
  have bad : ∀ c',readsL at_ ver s.list = false → finW (fun r O _ => ∃ (x : SL Int) (l : List AV),r = .tup (x.ref 1 :: l) ∧ O = x.wood 1 encI noInn ∧ ReadQ at_ ver s.list x l)
      (.tup [.ref 0 c' 1 0,.bool false]) [⟨false,c',1,[]⟩] (c' + 1) := fun c' hb => fin_all ⟨.mk c' [],[.bool false],rfl,by simp [flat_wood],by rw [readL_no hb]; rfl,by rw [hb]⟩
  cases h1 : areLines s.list
  · simp
    exact bad _ (by simp [readsL,h1])
  have hw : IntKind.i64.wrap ((s.list.length : Int) - 1) = s.list.length - 1 := wrap64 (by omega) (by omega)
  simp [hw]
  refine call_fn0 (l1In_fn _ _ _) .bool fun cc _ => ?_
  cases h2 : inR at_ 0 (s.list.length - 1)
  · simp
    exact bad _ (by simp [readsL,h2])
  have g2 := inR_true h2
  obtain ⟨k,rfl⟩ : ∃ k : Nat,at_ = k := ⟨at_.toNat,by omega⟩
  have hk : k < s.list.length := by omega
  have hg : s.list[k]? = some s.list[k] := List.getElem?_eq_getElem hk
  have hr : readsL k ver s.list = (decide (s.list[k].Seq.tmod 2 ≠ 1) && decide (s.list[k].Version = ver) && decide (1 ≤ ver)) := by simp [readsL,h1,h2,hg]
  simp
  refine ⟨_,hg,?_⟩
  have hwx := hz _ (List.getElem_mem hk)
  by_cases h3 : s.list[k].Seq.tmod 2 = 1
  · simp [h3]
    exact bad _ (by rw [hr]; simp [h3])
  simp [h3]
  refine ⟨_,hg,?_⟩
  by_cases h4 : s.list[k].Version = ver
  rotate_left
  · simp [h4]
    exact bad _ (by rw [hr]; simp [h4])
  by_cases h5 : ver < 1
  · simp [h4,h5]
    exact bad _ (by rw [hr]; simp [h3]; intros; omega)
  simp [h4,h5]
  refine ⟨_,hg,?_⟩
  simp
  have hgood : readsL k ver s.list = true := by rw [hr]; simp [h3,h4]; omega
  refine ⟨by omega,by unfold mx; omega,?_⟩
  exact fin_all ⟨.mk (cc + 1) s.list[k].Words.list,[.bool true],by simp [SL.ref],by simp [flat_wood],by simp [readL,hgood,hg],by rw [hgood]⟩
theorem impl_readO {s : SL TLine} {at_ ver : Int} (hn : s.list.length ≤ 1048576) (hz : ∀ x,x ∈ s.list → x.Words.list.length ≤ 1048576) (c : Nat) :
    Con Tryz.prog 43 [s.av 4 TLine.enc,.int .i64 at_,.int .i64 ver] [] c fun r O _ => ∃ (x : SL Int) (l : List AV),r = .tup (x.ref 1 :: l) ∧ O = x.wood 1 encI noInn ∧ ReadQ at_ ver s.list x l := by
  refine con_of c43 (by simp [F43]) ?_
  unfold F43
  simp
  refine call_fn0 (impl_areLines (by unfold mx; omega)) .bool fun cc _ => ?_
  have bad : ∀ c',readsL at_ ver s.list = false → finW (fun r O _ => ∃ (x : SL Int) (l : List AV),r = .tup (x.ref 1 :: l) ∧ O = x.wood 1 encI noInn ∧ ReadQ at_ ver s.list x l)
      (.tup [.nsl,.bool false]) [] c' := fun c' hb => fin_all ⟨.nil,[.bool false],rfl,rfl,by rw [readL_no hb]; rfl,by rw [hb]⟩
  cases h1 : areLines s.list
  · simp
    exact bad _ (by simp [readsL,h1])
  have hw : IntKind.i64.wrap ((s.list.length : Int) - 1) = s.list.length - 1 := wrap64 (by omega) (by omega)
  simp [hw]
  refine call_fn0 (inRange_fn _ _ _) .bool fun cc _ => ?_
  cases h2 : inR at_ 0 (s.list.length - 1)
  · simp
    exact bad _ (by simp [readsL,h2])
  have g2 := inR_true h2
  obtain ⟨k,rfl⟩ : ∃ k : Nat,at_ = k := ⟨at_.toNat,by omega⟩
  have hk : k < s.list.length := by omega
  have hg : s.list[k]? = some s.list[k] := List.getElem?_eq_getElem hk
  have hr : readsL k ver s.list = (decide (s.list[k].Seq.tmod 2 ≠ 1) && decide (s.list[k].Version = ver) && decide (1 ≤ ver)) := by simp [readsL,h1,h2,hg]
  simp
  refine ⟨_,hg,?_⟩
  have hwx := hz _ (List.getElem_mem hk)
  by_cases h3 : s.list[k].Seq.tmod 2 = 1
  · simp [h3]
    exact bad _ (by rw [hr]; simp [h3])
  simp [h3]
  refine ⟨_,hg,?_⟩
  by_cases h4 : s.list[k].Version = ver
  rotate_left
  · simp [h4]
    exact bad _ (by rw [hr]; simp [h4])
  by_cases h5 : ver < 1
  · simp [h4,h5]
    exact bad _ (by rw [hr]; simp [h3]; intros; omega)
  simp [h4,h5]
  refine ⟨_,hg,?_⟩
  simp
  have hgood : readsL k ver s.list = true := by rw [hr]; simp [h3,h4]; omega
  refine call_new (cloneIO hwx _) (Views.refl _ _) fun r O c1 hc ⟨x,hr,hO,hx⟩ _ _ => ?_
  subst hr; subst hO
  refine ⟨_,.refl _,free_ref _ _ _,fun o ho => flat_free encI_flat _ _ o ho _,?_⟩
  simp
  exact fin_all ⟨x,[.bool true],rfl,rfl,by simp [readL,hgood,hg,hx],by rw [hgood]⟩
set_option maxRecDepth 100000
theorem line_con_list {l m : List TLine} (h : l.map TLine.con = m.map TLine.con) : areLines l = areLines m ∧ l.length = m.length ∧ (∀ k : Nat,(l[k]?).map TLine.con = (m[k]?).map TLine.con) := by
  refine ⟨?_,by simpa using congrArg List.length h,fun k => ?_⟩
  · have e : ∀ l : List TLine,areLines l = areLines (l.map TLine.con) := fun l => by
      unfold areLines
      rw [List.all_map,List.length_map]
      rfl
    rw [e,e m,h]
  · have := congrArg (fun x => x[k]?) h
    simpa using this
theorem readsL_con {at_ ver : Int} {l m : List TLine} (h : l.map TLine.con = m.map TLine.con) : readsL at_ ver l = readsL at_ ver m ∧ readL at_ ver l = readL at_ ver m := by
  obtain ⟨h1,h2,h3⟩ := line_con_list h
  have h3 := h3 at_.toNat
  have key : readsL at_ ver l = readsL at_ ver m := by
    unfold readsL
    rw [h1,h2]
    cases hl : l[at_.toNat]? <;> cases hm : m[at_.toNat]? <;> rw [hl,hm] at h3 <;> simp at h3 ⊢
    rename_i x y
    have e1 : x.Seq = y.Seq := (congrArg TLine.Seq h3 : x.con.Seq = y.con.Seq)
    have e2 : x.Version = y.Version := (congrArg TLine.Version h3 : x.con.Version = y.con.Version)
    rw [e1,e2]
  refine ⟨key,?_⟩
  unfold readL
  rw [key]
  cases hl : l[at_.toNat]? <;> cases hm : m[at_.toNat]? <;> rw [hl,hm] at h3 <;> simp at h3 ⊢
  rename_i x y
  have e1 : x.Words.list = y.Words.list := (congrArg (fun z : TLine => z.Words.list) h3 : x.con.Words.list = y.con.Words.list)
  rw [e1]
theorem readF {at_ ver : Int} {l : List TLine} (x : SL Int) (r : List AV) (h : ReadQ at_ ver l x r) : ∀ a,a ∈ r → Free a := fun a ha => by
  rw [h.2] at ha; simp at ha; subst ha; exact free_bool _
theorem spec_read {s : SL TLine} {at_ ver : Int} (hn : s.list.length ≤ 1048576) (hz : ∀ x,x ∈ s.list → x.Words.list.length ≤ 1048576) : Tr Tryz.prog 40 [s.av 4 TLine.enc,.int .i64 at_,.int .i64 ver] fun _ r => ∃ (x : SL Int) (l : List AV),r = .tup (x.av 1 encI :: l) ∧ ReadQ at_ ver s.list x l :=
  flat_tr2 encI_flat readF (spec_readO hn hz)
theorem impl_read {s : SL TLine} {at_ ver : Int} (hn : s.list.length ≤ 1048576) (hz : ∀ x,x ∈ s.list → x.Words.list.length ≤ 1048576) : Tr Tryz.prog 43 [s.av 4 TLine.enc,.int .i64 at_,.int .i64 ver] fun _ r => ∃ (x : SL Int) (l : List AV),r = .tup (x.av 1 encI :: l) ∧ ReadQ at_ ver s.list x l :=
  flat_tr2 encI_flat readF (impl_readO hn hz)
theorem readL_len {at_ ver : Int} {l : List TLine} (hw : ∀ x,x ∈ l → x.Words.list.length ≤ 1048576) : (readL at_ ver l).length ≤ 1048576 := by
  unfold readL
  split
  · split
    · rename_i x hx; exact hw x (List.mem_of_getElem? hx)
    · simp
  · simp
set_option maxRecDepth 100000
def prog0 : TProgram := ⟨.nil,.nil⟩
theorem dec_sz {b : List UInt8} (h : DecOk b) : (decP b).sz ≤ b.length := by
  obtain ⟨h1,_⟩ := h
  obtain ⟨a1,h2,h3,h4⟩ := cons_of_some (cons_list (cons_class b)) (s := (decF b).2) (a' := b.length) h1
  have h5 := (cons_list (cons_func b)).eat 0 a1 h2
  have e : (decP b).sz = ((decF b).1.length + szL TFunc.sz (decF b).1) + ((decK b).1.length + szL TClass.sz (decK b).1) := rfl
  have e1 : (rList b (rFunc b) (some 0)).1 = (decF b).1 := rfl
  have e2 : (rList b (rClass b) (decF b).2).1 = (decK b).1 := rfl
  rw [e1] at h5
  rw [e2] at h3
  rw [e]
  omega
noncomputable def fetP (at_ v : Int) (l : List TLine) : TProgram := match unpack (readL at_ v l) with | some b => if pdec (DecOk b) then decP b else prog0 | none => prog0
noncomputable def fetOk (at_ v : Int) (l : List TLine) : Bool := match unpack (readL at_ v l) with | some b => pdec (DecOk b) | none => false
theorem fetP_sz (at_ v : Int) (l : List TLine) : (fetP at_ v l).sz ≤ 24000 := by
  have h0 : prog0.sz ≤ 24000 := by simp [prog0,TProgram.sz,szFuncS,szClassS,szL]
  unfold fetP
  cases h : unpack (readL at_ v l) with
  | none => exact h0
  | some b =>
    simp only
    by_cases hb : DecOk b
    · rw [pdec_true hb]
      have h1 := dec_sz hb
      have h2 := unpack_len h
      simp
      omega
    · rw [pdec_false hb]
      exact h0
def FetR (at_ v : Int) (l : List TLine) (r : AV) (O : List AObj) : Prop := ∃ p : TProgram,r = .tup [.agg p.encO,.bool (fetOk at_ v l)] ∧ O = p.inn ∧ p.con = (fetP at_ v l).con
theorem fetR_no {at_ v : Int} {l : List TLine} (h : unpack (readL at_ v l) = none) : FetR at_ v l (.tup [.agg [.nsl,.nsl],.bool false]) [] := by
  refine ⟨prog0,?_,rfl,?_⟩
  · unfold fetOk; rw [h]; rfl
  · unfold fetP; rw [h]
theorem fetR_dec {at_ v : Int} {l : List TLine} {b : List UInt8} {r : AV} {O : List AObj} (h : unpack (readL at_ v l) = some b) (hd : DecR b r O) : ∃ Hs H2,Hs.Sublist O ∧ H2.Perm Hs ∧ FetR at_ v l r H2 := by
  rcases hd with ⟨p,h1,hr,hp,Hs,hs,hperm⟩ | ⟨h1,hr⟩
  · refine ⟨Hs,p.inn,hs,hperm,p,?_,rfl,?_⟩
    · unfold fetOk; rw [h]; simp only; rw [pdec_true h1,hr]
    · unfold fetP; rw [h]; simp only; rw [pdec_true h1,hp]; rfl
  · refine ⟨[],[],List.nil_sublist _,.refl _,prog0,?_,rfl,?_⟩
    · unfold fetOk; rw [h]; simp only; rw [pdec_false h1,hr]; rfl
    · unfold fetP; rw [h]; simp only; rw [pdec_false h1]; rfl
theorem impl_decR {at_ v : Int} {l : List TLine} {s : SL UInt8} (h : unpack (readL at_ v l) = some s.list) (c : Nat) : Con Tryz.prog 45 [s.av 1 byteRow] [] c fun r O _ => FetR at_ v l r O :=
  con_perm (ir_decode impl_uns (unpack_len h) c) fun r O c' hd => fetR_dec h hd
theorem spec_decR {at_ v : Int} {l : List TLine} {s : SL UInt8} (h : unpack (readL at_ v l) = some s.list) (c : Nat) : Con Tryz.prog 42 [s.av 1 byteRow] [] c fun r O _ => FetR at_ v l r O :=
  con_perm (os_decode spec_uns (unpack_len h) c) fun r O c' hd => fetR_dec h hd
theorem impl_fetO {s : SL TLine} {at_ v : Int} (hn : s.list.length ≤ 1048576) (hz : ∀ x,x ∈ s.list → x.Words.list.length ≤ 1048576) (c : Nat) :
    Con Tryz.prog 17 [s.av 4 TLine.enc,.int .i64 at_,.int .i64 v] [] c fun r O _ => FetR at_ v s.list r O := by
  refine con_of c17 (by simp [F17]) ?_
  unfold F17
  simp
  refine call_tree0 (impl_read hn hz) fun r c1 hc1 ⟨w,l,hr,hw,hl⟩ _ => ?_
  subst hr hl
  have hwl : w.list.length ≤ 1048576 := by rw [hw]; exact readL_len hz
  simp [putA]
  cases hrd : readsL at_ v s.list
  · simp [putA]
    exact fin_plain (fetR_no (by rw [readL_no hrd]; rfl))
  simp [putA]
  refine call_tree0 (impl_unp hwl) fun r c2 hc2 hq _ => ?_
  rw [hw] at hq
  rcases hq with ⟨b,hb,t,hr,ht⟩ | ⟨hb,t,hr,ht⟩
  rotate_left
  · subst hr
    simp [putA]
    exact fin_plain (fetR_no hb)
  subst hr ht
  simp [putA]
  refine call_new (impl_decR (at_ := at_) (v := v) (l := s.list) hb _) (Views.refl _ _) fun r O c3 hc3 ⟨p,hr,hO,hp⟩ _ _ => ?_
  subst hr hO
  refine ⟨_,.refl _,free_tup (by simp [free_agg (TProgram.freeO p),free_bool]) _,fun o ho => TProgram.freeI p o ho _,?_⟩
  simp [putA]
  exact fin_sub (Hk := p.inn) (by simp) (.refl _) ⟨p,rfl,rfl,hp⟩
theorem spec_fetO {s : SL TLine} {at_ v : Int} (hn : s.list.length ≤ 1048576) (hz : ∀ x,x ∈ s.list → x.Words.list.length ≤ 1048576) (c : Nat) :
    Con Tryz.prog 16 [s.av 4 TLine.enc,.int .i64 at_,.int .i64 v] [] c fun r O _ => FetR at_ v s.list r O := by
  refine con_of c16 (by simp [F16]) ?_
  unfold F16
  simp
  refine call_tree0 (spec_read hn hz) fun r c1 hc1 ⟨w,l,hr,hw,hl⟩ _ => ?_
  subst hr hl
  have hwl : w.list.length ≤ 1048576 := by rw [hw]; exact readL_len hz
  simp [putA]
  refine call_tree0 (spec_unp hwl) fun r c2 hc2 hq _ => ?_
  rw [hw] at hq
  cases hrd : readsL at_ v s.list
  · have hb : unpack (readL at_ v s.list) = none := by rw [readL_no hrd]; rfl
    rcases hq with ⟨b,hb',t,hr,ht⟩ | ⟨_,t,hr,ht⟩
    · rw [hb] at hb'; cases hb'
    subst hr
    simp [putA]
    exact fin_plain (fetR_no hb)
  rcases hq with ⟨b,hb,t,hr,ht⟩ | ⟨hb,t,hr,ht⟩
  rotate_left
  · subst hr
    simp [putA]
    exact fin_plain (fetR_no hb)
  subst hr ht
  simp [putA]
  refine call_new (spec_decR (at_ := at_) (v := v) (l := s.list) hb _) (Views.refl _ _) fun r O c3 hc3 ⟨p,hr,hO,hp⟩ _ _ => ?_
  subst hr hO
  refine ⟨_,.refl _,free_tup (by simp [free_agg (TProgram.freeO p),free_bool]) _,fun o ho => TProgram.freeI p o ho _,?_⟩
  simp [putA]
  exact fin_sub (Hk := p.inn) (by simp) (.refl _) ⟨p,rfl,rfl,hp⟩
theorem fet_same {l m : List TLine} {at_ v : Int} (h : l.map TLine.con = m.map TLine.con) : fetOk at_ v l = fetOk at_ v m ∧ fetP at_ v l = fetP at_ v m := by
  have := (readsL_con (at_ := at_) (ver := v) h).2
  exact ⟨by unfold fetOk; rw [this],by unfold fetP; rw [this]⟩
set_option maxRecDepth 100000
end A
end Go.Proofs.YtgalkppgeoknaaaGreatDoor

namespace Go.Proofs.YtgalkppgeoknaaaGreatDoor
namespace A
set_option linter.unusedVariables false
set_option linter.unusedSimpArgs false
set_option maxRecDepth 100000
theorem mark_inA {α : Type} {P : Program} {f w : Nat} {encO : α → List AV} {inn : α → List AObj} {mk : Int → α → α} {cnt : α → Nat} {K : AV → List AObj → Nat → Prop} {A C : List AObj} {s : SL α} {k n : Int} {c : Nat}
    (hf : Con P f [s.ref w,.int .i64 k] (s.wood w encO inn) c fun r H' _ => r = .int .i64 n ∧ H' = (s.marks mk cnt k).wood w encO inn)
    (hi : ∀ k x,tags (inn (mk k x)) = tags (inn x)) (hO : ∀ x a,a ∈ encO x → Free a) (hI : ∀ x o,o ∈ inn x → ∀ T,AvRows T o) {H X : List AObj} {B : AObj} (hH : H = A ++ (s.wood w encO inn ++ C)) (hX : A ++ ((s.marks mk cnt k).wood w encO inn ++ C) = X ++ [B]) (kk : ∀ c',c ≤ c' → K (.int .i64 n) (X ++ [B]) c') :
    CallW P f [s.ref w,.int .i64 k] H c K := by
  rw [hH,← List.append_assoc]
  exact mark_mid hf hi hO hI fun c' h => by rw [List.append_assoc,hX]; exact kk c' h
theorem marks_wood_len {α : Type} {w : Nat} {encO : α → List AV} {inn : α → List AObj} {mk : Int → α → α} {cnt : α → Nat} (hi : ∀ k x,tags (inn (mk k x)) = tags (inn x)) (k : Int) (s : SL α) : ((s.marks mk cnt k).wood w encO inn).length = (s.wood w encO inn).length := by
  have := congrArg List.length (tags_wood (w := w) (encO := encO) (cnt := cnt) hi k s)
  simpa [tags] using this
theorem getW_endN {α : Type} {X : List α} {B : α} {n : Nat} (h : X.length = n) (K : α → Prop) : getW (X ++ [B]) n K = K B := getW_of (by rw [List.getElem?_append_right (by omega)]; simp [h]) K
def mkProgram (k : Int) (s : TProgram) : TProgram := ⟨s.Funcs.marks mkFunc cFunc k,s.Classes.marks mkClass cClass (k + szL cFunc s.Funcs.list)⟩
def cProgram (s : TProgram) : Nat := szL cFunc s.Funcs.list + szL cClass s.Classes.list
theorem mkProgram_tags (k : Int) (s : TProgram) : tags (mkProgram k s).inn = tags s.inn := by
  have eT : ∀ X Y : List AObj,tags (X ++ Y) = tags X ++ tags Y := fun X Y => by simp [tags]
  unfold TProgram.inn
  simp only [eT,mkProgram]
  rw [tags_wood (w := 6) (encO := TFunc.encO) (inn := TFunc.inn) (mk := mkFunc) (cnt := cFunc) mkFunc_tags,tags_wood (w := 4) (encO := TClass.encO) (inn := TClass.inn) (mk := mkClass) (cnt := cClass) mkClass_tags]
theorem mkProgram_len (k : Int) (s : TProgram) : (mkProgram k s).inn.length = s.inn.length := by
  have := congrArg List.length (mkProgram_tags k s)
  simpa [tags] using this
theorem mkProgram_encO (k : Int) (s : TProgram) : (mkProgram k s).encO = s.encO := by unfold TProgram.encO mkProgram; simp [SL.marks_ref]
theorem markProgram_con {s : TProgram} (z1 : szL cFunc s.Funcs.list ≤ 16777216) (z2 : szL cClass s.Classes.list ≤ 16777216) {k : Int} (hk : 0 ≤ k ∧ k ≤ 137438953472) (c : Nat) :
    Con Tryz.prog 14 [.agg s.encO,.int .i64 k] s.inn c fun r O _ => r = .int .i64 (k + cProgram s) ∧ O = (mkProgram k s).inn := by
  refine con_of c14 (by simp [F14]) ?_
  unfold F14
  simp
  generalize hn : s.inn.length = n
  unfold TProgram.inn at hn ⊢
  have hn0 := hn
  simp only [List.length_append] at hn
  have l0 := marks_wood_len (w := 6) (encO := TFunc.encO) (inn := TFunc.inn) (mk := mkFunc) (cnt := cFunc) mkFunc_tags k s.Funcs
  have l1 := marks_wood_len (w := 4) (encO := TClass.encO) (inn := TClass.inn) (mk := mkClass) (cnt := cClass) mkClass_tags (k + szL cFunc s.Funcs.list) s.Classes
  obtain ⟨X0,hX0⟩ : ∃ X : List AObj,X = ((s.Funcs.marks mkFunc cFunc k).wood 6 TFunc.encO TFunc.inn) ++ (s.Classes.wood 4 TClass.encO TClass.inn) := ⟨_,rfl⟩
  have hl0 : X0.length = n := by rw [hX0]; simp only [List.length_append]; omega
  refine mark_inA (A := []) (C := (s.Classes.wood 4 TClass.encO TClass.inn) ++ ([(⟨false,c,2,[s.encO]⟩ : AObj)])) (markFunc_con (s := s.Funcs) z1 (k := k) ⟨by omega,by omega⟩ _) mkFunc_tags TFunc.freeO TFunc.freeI (X := X0) (B := ⟨false,c,2,[s.encO]⟩) (by simp) (by rw [hX0]; simp) fun c0 _ => ?_
  simp [getW_endN hl0]
  obtain ⟨X1,hX1⟩ : ∃ X : List AObj,X = ((s.Funcs.marks mkFunc cFunc k).wood 6 TFunc.encO TFunc.inn) ++ ((s.Classes.marks mkClass cClass (k + szL cFunc s.Funcs.list)).wood 4 TClass.encO TClass.inn) := ⟨_,rfl⟩
  have hl1 : X1.length = n := by rw [hX1]; simp only [List.length_append]; omega
  refine mark_inA (A := ((s.Funcs.marks mkFunc cFunc k).wood 6 TFunc.encO TFunc.inn)) (C := [(⟨false,c,2,[s.encO]⟩ : AObj)]) (markClass_con (s := s.Classes) z2 (k := k + szL cFunc s.Funcs.list) ⟨by omega,by omega⟩ _) mkClass_tags TClass.freeO TClass.freeI (X := X1) (B := ⟨false,c,2,[s.encO]⟩) (by rw [hX0]; simp) (by rw [hX1]; simp) fun c1 _ => ?_
  simp [getW_endN hl1]
  refine fin_sub (Hk := X1) (List.sublist_append_left _ _) (.refl _) ⟨?_,?_⟩
  · simp [cProgram]; omega
  · rw [hX1]; rfl
theorem szL_lin {α : Type} (f g : α → Nat) (a b : Nat) : ∀ (l : List α),(∀ x,x ∈ l → f x ≤ a * g x + b) → szL f l ≤ a * szL g l + b * l.length
  | [],_ => by simp [szL]
  | x :: l,h => by
    have ih := szL_lin f g a b l fun y hy => h y (List.mem_cons_of_mem _ hy)
    have hx := h x (List.mem_cons_self ..)
    simp only [szL,List.map_cons,List.sum_cons,List.length_cons] at ih ⊢
    rw [Nat.mul_add,Nat.mul_add]
    omega
theorem cR_le : ∀ v : TValue,v.cR ≤ 7 * v.sz := TValue.ind fun k n s x I ih => by
  rw [cR_eq,TValue.sz_mk]
  show szL cEntry I.list ≤ _
  have := szL_lin cEntry szE 7 7 I.list fun e he => by
    have := ih e he
    show 7 + e.2.cR ≤ 7 * (e.1.Str.length + e.2.sz) + 7
    omega
  omega
theorem cFunc_le (f : TFunc) : cFunc f ≤ 5 * f.sz + 2 := by
  have hz2 : f.sz = f.Name.length + (f.Params.list.length + szL TParam.sz f.Params.list) + (f.Uses.list.length + szL TParam.sz f.Uses.list) + (f.Slots.list.length + szL List.length f.Slots.list) + (f.Code.list.length + szL TIns.sz f.Code.list) := rfl
  have h1 := szL_eParam f.Params.list
  have h2 := szL_eParam f.Uses.list
  have h3 := szL_cS f.Slots.list
  have h4 := szL_eIns f.Code.list
  have h5 : cFunc f = 2 + szL cParam f.Params.list + szL cParam f.Uses.list + szL cS f.Slots.list + szL cIns f.Code.list := rfl
  omega
theorem cField_le (f : TField) : cField f ≤ 7 * f.sz + 7 := by
  have hz2 : f.sz = f.Name.length + f.Owner.length + f.Init.sz := rfl
  have h1 := cR_le f.Init
  rw [cR_eq] at h1
  have h5 : cField f = 7 + szL cEntry f.Init.Items.list := rfl
  omega
theorem cClass_le (c : TClass) : cClass c ≤ 7 * c.sz + 2 := by
  have hz2 : c.sz = c.Name.length + c.Parent.length + (c.Fields.list.length + szL TField.sz c.Fields.list) + (c.Methods.list.length + szL TMethod.sz c.Methods.list) := rfl
  have h1 := szL_lin cField TField.sz 7 7 c.Fields.list fun x _ => cField_le x
  have h2 := szL_eMethod c.Methods.list
  have h5 : cClass c = 2 + szL cField c.Fields.list + szL cMethod c.Methods.list := rfl
  omega
theorem prog_bounds {p : TProgram} (h : p.sz ≤ 1048576) : szL cFunc p.Funcs.list ≤ 16777216 ∧ szL cClass p.Classes.list ≤ 16777216 := by
  have hz2 : p.sz = (p.Funcs.list.length + szL TFunc.sz p.Funcs.list) + (p.Classes.list.length + szL TClass.sz p.Classes.list) := rfl
  have h1 := szL_lin cFunc TFunc.sz 5 2 p.Funcs.list fun x _ => cFunc_le x
  have h2 := szL_lin cClass TClass.sz 7 2 p.Classes.list fun x _ => cClass_le x
  omega
theorem call_atH {P : Program} {K : AV → List AObj → Nat → Prop} {f : Nat} {l l' : List AV} {A B C H : List AObj} {c : Nat} {Q : AV → List AObj → Nat → Prop} (hf : Con P f l' B c Q) (hv : Views [] l l') (hH : H = A ++ (B ++ C))
    (k : ∀ r B' c',c ≤ c' → Q r B' c' → tags B' = tags B ∧ Av [] r ∧ (∀ o,o ∈ B' → AvRows [] o) ∧ K r (A ++ (B' ++ C)) c') : CallW P f l H c K := by
  rw [hH,← List.append_assoc]
  exact call_mid hf hv fun r B' c' h1 h2 => by rw [List.append_assoc]; exact k r B' c' h1 h2
set_option maxRecDepth 100000
theorem heldString_nil (k : Int) : Fnc Tryz.prog 83 [.nsl,.int .i64 k] (.int .i64 k) := by
  refine fn_of c83 (by simp [F83]) fun c => ?_
  unfold F83
  simp
  refine loop_drop 0 (fun i e H c' => e 0 = .nsl ∧ e 1 = .int .i64 k ∧ e 5 = .int .i64 0 ∧ H = []) ⟨rfl,rfl,rfl,rfl⟩ ?_
  intro i e H c hi ⟨e0,e1,e5,hH⟩ N hN
  subst hH
  simp [e0,e1,e5]
  exact fin_plain ⟨rfl,rfl⟩
theorem heldString_fn1 {l : List (List UInt8)} (hz : l.length ≤ 16777216) {k : Int} (hk : 0 ≤ k ∧ k ≤ 1099511627776) (t : Nat) :
    Fnc Tryz.prog 83 [(SL.mk t (mks mkS cS k l)).av 1 encS,.int .i64 k] (.int .i64 (k + szL cS l)) := by
  refine fn_of c83 (by simp [F83]) fun c => ?_
  unfold F83
  simp
  have hlen := mks_len mkS cS k l
  refine loop_drop l.length (fun i e H c' => e 0 = (SL.mk t (mks mkS cS k l)).av 1 encS ∧ e 1 = .int .i64 (k + szL cS (l.take i)) ∧ e 5 = .int .i64 i ∧ H = []) ⟨rfl,by simp [szL],rfl,rfl⟩ ?_
  intro i e H c hi ⟨e0,e1,e5,hH⟩ N hN
  subst hH
  have hg := fun h : i < l.length => mks_get mkS cS k l h
  have hst := fun h : i < l.length => szL_step cS l h
  have hle : szL cS (l.take i) ≤ 16777216 := by rw [szL_cS,List.length_take]; omega
  generalize hjj : k + (szL cS (l.take i) : Int) = j at e1 hg
  simp [e0,e1,e5,hlen]
  refine ⟨fun h => ?_,fun h => ?_⟩
  · have hg := hg h
    have hst := hst h
    have w0 : IntKind.i64.wrap (j + 1) = j + 1 := wrap64 (by omega) (by omega)
    refine ⟨_,hg,?_⟩
    simp [e0,e1,e5,h,w0,mkS]
    refine callF_fn0 (mtext_fn (by omega)) .str fun _ _ => ?_
    simp [e0,e1,e5,h,w0,mkS]
    refine hN _ _ _ _ h (List.Sublist.refl _) ⟨by simp [upd,e0],?_,by simp [upd]; exact step64 (by unfold mx; omega) h,rfl⟩
    simp [upd,w0,hst,cS]; omega
  · have h1 : i = l.length := by omega
    subst h1
    refine fin_plain ⟨?_,rfl⟩
    rw [← hjj]; simp
theorem heldString_fn {s : SL (List UInt8)} (hz : szL cS s.list ≤ 16777216) {k : Int} (hk : 0 ≤ k ∧ k ≤ 1099511627776) :
    Fnc Tryz.prog 83 [(s.marks mkS cS k).av 1 encS,.int .i64 k] (.int .i64 (k + szL cS s.list)) := by
  cases s with
  | nil =>
    have := heldString_nil k
    simpa [SL.av,SL.marks,szL] using this
  | mk t l => exact heldString_fn1 (l := l) (by have := szL_cS l; simp at hz; omega) hk t
theorem heldEntry_nil (k : Int) : Fnc Tryz.prog 130 [.nsl,.int .i64 k] (.int .i64 k) := by
  refine fn_of c130 (by simp [F130]) fun c => ?_
  unfold F130
  simp
  refine loop_drop 0 (fun i e H c' => e 0 = .nsl ∧ e 1 = .int .i64 k ∧ e 5 = .int .i64 0 ∧ H = []) ⟨rfl,rfl,rfl,rfl⟩ ?_
  intro i e H c hi ⟨e0,e1,e5,hH⟩ N hN
  subst hH
  simp [e0,e1,e5]
  exact fin_plain ⟨rfl,rfl⟩
theorem heldEf_fnS {n : Nat} (ih : ∀ {l : List TEntry},szL cEntry l ≤ n → ∀ {k : Int},0 ≤ k ∧ k + szL cEntry l ≤ 2199023255552 → ∀ t,Fnc Tryz.prog 130 [(SL.mk t (mks (mkEf n) cEntry k l)).av 8 encE,.int .i64 k] (.int .i64 (k + szL cEntry l)))
    {s : SL TEntry} (hz : szL cEntry s.list ≤ n) {k : Int} (hk : 0 ≤ k ∧ k + szL cEntry s.list ≤ 2199023255552) :
    Fnc Tryz.prog 130 [(s.marks (mkEf n) cEntry k).av 8 encE,.int .i64 k] (.int .i64 (k + szL cEntry s.list)) := by
  cases s with
  | nil =>
    have := heldEntry_nil k
    simpa [SL.av,SL.marks,szL] using this
  | mk t l => exact ih (l := l) hz hk t
set_option maxHeartbeats 4000000 in
theorem heldEf_fn1 {n : Nat} (ih : ∀ {l : List TEntry},szL cEntry l ≤ n → ∀ {k : Int},0 ≤ k ∧ k + szL cEntry l ≤ 2199023255552 → ∀ t,Fnc Tryz.prog 130 [(SL.mk t (mks (mkEf n) cEntry k l)).av 8 encE,.int .i64 k] (.int .i64 (k + szL cEntry l)))
    {l : List TEntry} (hz : szL cEntry l ≤ n + 1) {k : Int} (hk : 0 ≤ k ∧ k + szL cEntry l ≤ 2199023255552) (t : Nat) :
    Fnc Tryz.prog 130 [(SL.mk t (mks (mkEf (n + 1)) cEntry k l)).av 8 encE,.int .i64 k] (.int .i64 (k + szL cEntry l)) := by
  have hln := szL_cEntry l
  have hkz : (0 : Int) ≤ (szL cEntry l : Int) := by omega
  have hlb : l.length ≤ 2199023255552 := by omega
  refine fn_of c130 (by simp [F130]) fun c => ?_
  unfold F130
  simp
  have hlen := mks_len (mkEf (n + 1)) cEntry k l
  refine loop_drop l.length (fun i e H c' => e 0 = (SL.mk t (mks (mkEf (n + 1)) cEntry k l)).av 8 encE ∧ e 1 = .int .i64 (k + szL cEntry (l.take i)) ∧ e 5 = .int .i64 i ∧ H = []) ⟨rfl,by simp [szL],rfl,rfl⟩ ?_
  intro i e H c hi ⟨e0,e1,e5,hH⟩ N hN
  subst hH
  have hg := fun h : i < l.length => mks_get (mkEf (n + 1)) cEntry k l h
  have hst := fun h : i < l.length => szL_step cEntry l h
  have hle := szL_le cEntry l i
  have hle' := szL_le cEntry l (i + 1)
  generalize hjj : k + (szL cEntry (l.take i) : Int) = j at e1 hg
  simp [e0,e1,e5,hlen]
  refine ⟨fun h => ?_,fun h => ?_⟩
  · have hg := hg h
    have hst := hst h
    have hx := szL_mem (sz := cEntry) (List.getElem_mem h)
    generalize l[i] = x at hg hst hx
    rw [cEntry_eq] at hx hst
    have w0 : IntKind.i64.wrap (j + 1) = j + 1 := wrap64 (by omega) (by omega)
    have w1 : IntKind.i64.wrap (j + 1 + 1) = j + 1 + 1 := wrap64 (by omega) (by omega)
    have w2 : IntKind.i64.wrap (j + 1 + 1 + 1) = j + 1 + 1 + 1 := wrap64 (by omega) (by omega)
    have w3 : IntKind.i64.wrap (j + 1 + 1 + 1 + 1) = j + 1 + 1 + 1 + 1 := wrap64 (by omega) (by omega)
    have w4 : IntKind.i64.wrap (j + 1 + 1 + 1 + 1 + 1) = j + 1 + 1 + 1 + 1 + 1 := wrap64 (by omega) (by omega)
    have w5 : IntKind.i64.wrap (j + 1 + 1 + 1 + 1 + 1 + 1) = j + 1 + 1 + 1 + 1 + 1 + 1 := wrap64 (by omega) (by omega)
    have w6 : IntKind.i64.wrap (j + 1 + 1 + 1 + 1 + 1 + 1 + 1) = j + 1 + 1 + 1 + 1 + 1 + 1 + 1 := wrap64 (by omega) (by omega)
    have pn : ¬ (j + 1 + 1 + 1 + 1 + 1 + 1 + 1 + (szL cEntry x.2.Items.list : Int) < 0) := by omega
    have q : encE (mkEf (n + 1) j x) = [.bool (decide ((j).tmod 3 = 0)),.int .i64 (j + 1),.str (mtext (j + 1 + 1)),.int .i64 (j + 1 + 1 + 1),.int .i64 (j + 1 + 1 + 1 + 1),.str (mtext (j + 1 + 1 + 1 + 1 + 1)),.int .i64 (j + 1 + 1 + 1 + 1 + 1 + 1),(x.2.Items.marks (mkEf n) cEntry (j + 1 + 1 + 1 + 1 + 1 + 1 + 1)).av 8 encE] := by
      simp [mkEf,encE,TKey.enc,TValue.enc_mk]
    refine ⟨_,hg,?_⟩
    simp [e0,e1,e5,h,w0,w1,w2,w3,w4,w5,w6,pn,q]
    refine ⟨_,hg,?_⟩
    simp [e0,e1,e5,h,w0,w1,w2,w3,w4,w5,w6,pn,q]
    refine ⟨_,hg,?_⟩
    simp [e0,e1,e5,h,w0,w1,w2,w3,w4,w5,w6,pn,q]
    refine callF_fn0 (mtext_fn (by omega)) .str fun _ _ => ?_
    simp [e0,e1,e5,h,w0,w1,w2,w3,w4,w5,w6,pn,q]
    refine ⟨_,hg,?_⟩
    simp [e0,e1,e5,h,w0,w1,w2,w3,w4,w5,w6,pn,q]
    refine ⟨_,hg,?_⟩
    simp [e0,e1,e5,h,w0,w1,w2,w3,w4,w5,w6,pn,q]
    refine ⟨_,hg,?_⟩
    simp [e0,e1,e5,h,w0,w1,w2,w3,w4,w5,w6,pn,q]
    refine callF_fn0 (mtext_fn (by omega)) .str fun _ _ => ?_
    simp [e0,e1,e5,h,w0,w1,w2,w3,w4,w5,w6,pn,q]
    refine ⟨_,hg,?_⟩
    simp [e0,e1,e5,h,w0,w1,w2,w3,w4,w5,w6,pn,q]
    refine ⟨_,hg,?_⟩
    simp [e0,e1,e5,h,w0,w1,w2,w3,w4,w5,w6,pn,q]
    refine call_fn0 (heldEf_fnS ih (s := x.2.Items) (by omega) (k := j + 1 + 1 + 1 + 1 + 1 + 1 + 1) ⟨by omega,by omega⟩) .int fun _ _ => ?_
    simp [e0,e1,e5,h,w0,w1,w2,w3,w4,w5,w6,pn,q]
    refine hN _ _ _ _ h (List.Sublist.refl _) ⟨by simp [upd,e0],?_,by simp [upd]; exact step64 (by unfold mx; omega) h,rfl⟩
    simp [upd,w0,w1,w2,w3,w4,w5,w6,hst]; omega
  · have h1 : i = l.length := by omega
    subst h1
    refine fin_plain ⟨?_,rfl⟩
    rw [← hjj]; simp
theorem held_empty (k : Int) (t : Nat) (m : Int → TEntry → TEntry) : Fnc Tryz.prog 130 [(SL.mk t (mks m cEntry k [])).av 8 encE,.int .i64 k] (.int .i64 (k + szL cEntry [])) := by
  refine fn_of c130 (by simp [F130]) fun c => ?_
  unfold F130
  simp
  have hlen := mks_len m cEntry k []
  refine loop_drop 0 (fun i e H c' => e 0 = (SL.mk t (mks m cEntry k [])).av 8 encE ∧ e 1 = .int .i64 k ∧ e 5 = .int .i64 0 ∧ H = []) ⟨rfl,rfl,rfl,rfl⟩ ?_
  intro i e H c hi ⟨e0,e1,e5,hH⟩ N hN
  subst hH
  simp at hlen
  simp [e0,e1,e5,hlen]
  exact fin_plain ⟨by simp [szL],rfl⟩
theorem heldEf_fn : ∀ (n : Nat) {l : List TEntry},szL cEntry l ≤ n → ∀ {k : Int},0 ≤ k ∧ k + szL cEntry l ≤ 2199023255552 → ∀ t,Fnc Tryz.prog 130 [(SL.mk t (mks (mkEf n) cEntry k l)).av 8 encE,.int .i64 k] (.int .i64 (k + szL cEntry l))
  | 0,l,hz,k,hk,t => by
    have hl : l = [] := List.length_eq_zero_iff.1 (by have := szL_cEntry l; omega)
    subst hl
    exact held_empty k t _
  | n + 1,l,hz,k,hk,t => heldEf_fn1 (fun hz => heldEf_fn n hz) hz hk t
theorem heldEntry_fn {s : SL TEntry} (hz : szL cEntry s.list ≤ 16777216) {k : Int} (hk : 0 ≤ k ∧ k ≤ 1099511627776) :
    Fnc Tryz.prog 130 [(s.marks mkEntry cEntry k).av 8 encE,.int .i64 k] (.int .i64 (k + szL cEntry s.list)) :=
  heldEf_fnS (n := FU) (fun hz => heldEf_fn FU hz) hz ⟨hk.1,by omega⟩
end A
end Go.Proofs.YtgalkppgeoknaaaGreatDoor
