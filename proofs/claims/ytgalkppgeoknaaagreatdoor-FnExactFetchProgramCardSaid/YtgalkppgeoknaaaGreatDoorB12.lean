import Derived.LaidLaws
import Derived.ProofKit
import Derived.Test.YtgalkppgeoknaaaGreatDoorRows
import Derived.OpenShut
import Derived.LaidMore
import Derived.Lay
import Derived.LaidSub
import Derived.SevenTiedAt
import Derived.Stop.Joined
import Derived.Lib.LaidTab
import Derived.Test.YtgalkppgeoknaaaGreatDoorTie
import Derived.Test.YtgalkppgeoknaaaGreatDoorCards
import Derived.Test.YtgalkppgeoknaaaGreatDoorB11

/-
  What reads the marks on a program's parts: printed by a program (wip/tools/genobj.py). No condition.
-/
set_option linter.unusedVariables false
set_option linter.unusedSimpArgs false
namespace Go.Proofs.YtgalkppgeoknaaaGreatDoor
namespace A
set_option linter.unusedVariables false
set_option linter.unusedSimpArgs false
set_option maxRecDepth 100000
theorem heldParam_nil (k : Int) : Fnc Tryz.prog 82 [.nsl,.int .i64 k] (.int .i64 k) := by
  refine fn_of c82 (by simp [F82]) fun c => ?_
  unfold F82
  simp
  refine loop_drop 0 (fun i e H c' => e 0 = .nsl ∧ e 1 = .int .i64 k ∧ e 5 = .int .i64 0 ∧ H = []) ⟨rfl,rfl,rfl,rfl⟩ ?_
  intro i e H c hi ⟨e0,e1,e5,hH⟩ N hN
  subst hH
  simp [e0,e1,e5]
  exact fin_plain ⟨rfl,rfl⟩
set_option maxHeartbeats 4000000 in
theorem heldParam_fn1 {l : List TParam} (hz : szL cParam l ≤ 16777216) {k : Int} (hk : 0 ≤ k ∧ k ≤ 1099511627776) (t : Nat) :
    Fnc Tryz.prog 82 [(SL.mk t (mks mkParam cParam k l)).av 2 TParam.enc,.int .i64 k] (.int .i64 (k + szL cParam l)) := by
  have hln := szL_cParam l
  refine fn_of c82 (by simp [F82]) fun c => ?_
  unfold F82
  simp
  have hlen := mks_len mkParam cParam k l
  refine loop_drop l.length (fun i e H c' => e 0 = (SL.mk t (mks mkParam cParam k l)).av 2 TParam.enc ∧ e 1 = .int .i64 (k + szL cParam (l.take i)) ∧ e 5 = .int .i64 i ∧ H = []) ⟨rfl,by simp [szL],rfl,rfl⟩ ?_
  intro i e H c hi ⟨e0,e1,e5,hH⟩ N hN
  subst hH
  have hg := fun h : i < l.length => mks_get mkParam cParam k l h
  have hst := fun h : i < l.length => szL_step cParam l h
  have hle := szL_le cParam l i
  have hle' := szL_le cParam l (i + 1)
  generalize hjj : k + (szL cParam (l.take i) : Int) = j at e1 hg
  simp [e0,e1,e5,hlen]
  refine ⟨fun h => ?_,fun h => ?_⟩
  · have hg := hg h
    have hst := hst h
    have hx := szL_mem (sz := cParam) (List.getElem_mem h)
    generalize l[i] = x at hg hst hx
    simp only [cParam] at hx hst
    have w0 : IntKind.i64.wrap (j + 1) = j + 1 := wrap64 (by omega) (by omega)
    have f0 : (mkParam j x).Name = mtext (j) := rfl
    have w1 : IntKind.i64.wrap (j + 1 + 1) = j + 1 + 1 := wrap64 (by omega) (by omega)
    have f1 : (mkParam j x).Ref = decide ((j + 1).tmod 3 = 0) := rfl
    refine ⟨_,hg,?_⟩
    simp [e0,e1,e5,h,w0,w1,f0,f1]
    refine callF_fn0 (mtext_fn (by omega)) .str fun _ _ => ?_
    simp [e0,e1,e5,h,w0,w1,f0,f1]
    refine ⟨_,hg,?_⟩
    simp [e0,e1,e5,h,w0,w1,f0,f1]
    refine hN _ _ _ _ h (List.Sublist.refl _) ⟨by simp [upd,e0],?_,by simp [upd]; exact step64 (by unfold mx; omega) h,rfl⟩
    simp [upd,w0,w1,hst]; omega
  · have h1 : i = l.length := by omega
    subst h1
    refine fin_plain ⟨?_,rfl⟩
    rw [← hjj]; simp
theorem heldParam_fn {s : SL TParam} (hz : szL cParam s.list ≤ 16777216) {k : Int} (hk : 0 ≤ k ∧ k ≤ 1099511627776) :
    Fnc Tryz.prog 82 [(s.marks mkParam cParam k).av 2 TParam.enc,.int .i64 k] (.int .i64 (k + szL cParam s.list)) := by
  cases s with
  | nil =>
    have := heldParam_nil k
    simpa [SL.av,SL.marks,szL] using this
  | mk t l => exact heldParam_fn1 (l := l) hz hk t
theorem heldIns_nil (k : Int) : Fnc Tryz.prog 84 [.nsl,.int .i64 k] (.int .i64 k) := by
  refine fn_of c84 (by simp [F84]) fun c => ?_
  unfold F84
  simp
  refine loop_drop 0 (fun i e H c' => e 0 = .nsl ∧ e 1 = .int .i64 k ∧ e 5 = .int .i64 0 ∧ H = []) ⟨rfl,rfl,rfl,rfl⟩ ?_
  intro i e H c hi ⟨e0,e1,e5,hH⟩ N hN
  subst hH
  simp [e0,e1,e5]
  exact fin_plain ⟨rfl,rfl⟩
set_option maxHeartbeats 4000000 in
theorem heldIns_fn1 {l : List TIns} (hz : szL cIns l ≤ 16777216) {k : Int} (hk : 0 ≤ k ∧ k ≤ 1099511627776) (t : Nat) :
    Fnc Tryz.prog 84 [(SL.mk t (mks mkIns cIns k l)).av 5 TIns.enc,.int .i64 k] (.int .i64 (k + szL cIns l)) := by
  have hln := szL_cIns l
  refine fn_of c84 (by simp [F84]) fun c => ?_
  unfold F84
  simp
  have hlen := mks_len mkIns cIns k l
  refine loop_drop l.length (fun i e H c' => e 0 = (SL.mk t (mks mkIns cIns k l)).av 5 TIns.enc ∧ e 1 = .int .i64 (k + szL cIns (l.take i)) ∧ e 5 = .int .i64 i ∧ H = []) ⟨rfl,by simp [szL],rfl,rfl⟩ ?_
  intro i e H c hi ⟨e0,e1,e5,hH⟩ N hN
  subst hH
  have hg := fun h : i < l.length => mks_get mkIns cIns k l h
  have hst := fun h : i < l.length => szL_step cIns l h
  have hle := szL_le cIns l i
  have hle' := szL_le cIns l (i + 1)
  generalize hjj : k + (szL cIns (l.take i) : Int) = j at e1 hg
  simp [e0,e1,e5,hlen]
  refine ⟨fun h => ?_,fun h => ?_⟩
  · have hg := hg h
    have hst := hst h
    have hx := szL_mem (sz := cIns) (List.getElem_mem h)
    generalize l[i] = x at hg hst hx
    simp only [cIns] at hx hst
    have w0 : IntKind.i64.wrap (j + 1) = j + 1 := wrap64 (by omega) (by omega)
    have f0 : (mkIns j x).Op = j := rfl
    have w1 : IntKind.i64.wrap (j + 1 + 1) = j + 1 + 1 := wrap64 (by omega) (by omega)
    have f1 : (mkIns j x).A = j + 1 := rfl
    have w2 : IntKind.i64.wrap (j + 1 + 1 + 1) = j + 1 + 1 + 1 := wrap64 (by omega) (by omega)
    have f2 : (mkIns j x).B = j + 1 + 1 := rfl
    have w3 : IntKind.i64.wrap (j + 1 + 1 + 1 + 1) = j + 1 + 1 + 1 + 1 := wrap64 (by omega) (by omega)
    have f3 : (mkIns j x).S = mtext (j + 1 + 1 + 1) := rfl
    have w4 : IntKind.i64.wrap (j + 1 + 1 + 1 + 1 + 1) = j + 1 + 1 + 1 + 1 + 1 := wrap64 (by omega) (by omega)
    have f4 : (mkIns j x).T = mtext (j + 1 + 1 + 1 + 1) := rfl
    refine ⟨_,hg,?_⟩
    simp [e0,e1,e5,h,w0,w1,w2,w3,w4,f0,f1,f2,f3,f4]
    refine ⟨_,hg,?_⟩
    simp [e0,e1,e5,h,w0,w1,w2,w3,w4,f0,f1,f2,f3,f4]
    refine ⟨_,hg,?_⟩
    simp [e0,e1,e5,h,w0,w1,w2,w3,w4,f0,f1,f2,f3,f4]
    refine ⟨_,hg,?_⟩
    simp [e0,e1,e5,h,w0,w1,w2,w3,w4,f0,f1,f2,f3,f4]
    refine callF_fn0 (mtext_fn (by omega)) .str fun _ _ => ?_
    simp [e0,e1,e5,h,w0,w1,w2,w3,w4,f0,f1,f2,f3,f4]
    refine ⟨_,hg,?_⟩
    simp [e0,e1,e5,h,w0,w1,w2,w3,w4,f0,f1,f2,f3,f4]
    refine callF_fn0 (mtext_fn (by omega)) .str fun _ _ => ?_
    simp [e0,e1,e5,h,w0,w1,w2,w3,w4,f0,f1,f2,f3,f4]
    refine hN _ _ _ _ h (List.Sublist.refl _) ⟨by simp [upd,e0],?_,by simp [upd]; exact step64 (by unfold mx; omega) h,rfl⟩
    simp [upd,w0,w1,w2,w3,w4,hst]; omega
  · have h1 : i = l.length := by omega
    subst h1
    refine fin_plain ⟨?_,rfl⟩
    rw [← hjj]; simp
theorem heldIns_fn {s : SL TIns} (hz : szL cIns s.list ≤ 16777216) {k : Int} (hk : 0 ≤ k ∧ k ≤ 1099511627776) :
    Fnc Tryz.prog 84 [(s.marks mkIns cIns k).av 5 TIns.enc,.int .i64 k] (.int .i64 (k + szL cIns s.list)) := by
  cases s with
  | nil =>
    have := heldIns_nil k
    simpa [SL.av,SL.marks,szL] using this
  | mk t l => exact heldIns_fn1 (l := l) hz hk t
theorem heldMethod_nil (k : Int) : Fnc Tryz.prog 86 [.nsl,.int .i64 k] (.int .i64 k) := by
  refine fn_of c86 (by simp [F86]) fun c => ?_
  unfold F86
  simp
  refine loop_drop 0 (fun i e H c' => e 0 = .nsl ∧ e 1 = .int .i64 k ∧ e 5 = .int .i64 0 ∧ H = []) ⟨rfl,rfl,rfl,rfl⟩ ?_
  intro i e H c hi ⟨e0,e1,e5,hH⟩ N hN
  subst hH
  simp [e0,e1,e5]
  exact fin_plain ⟨rfl,rfl⟩
set_option maxHeartbeats 4000000 in
theorem heldMethod_fn1 {l : List TMethod} (hz : szL cMethod l ≤ 16777216) {k : Int} (hk : 0 ≤ k ∧ k ≤ 1099511627776) (t : Nat) :
    Fnc Tryz.prog 86 [(SL.mk t (mks mkMethod cMethod k l)).av 5 TMethod.enc,.int .i64 k] (.int .i64 (k + szL cMethod l)) := by
  have hln := szL_cMethod l
  refine fn_of c86 (by simp [F86]) fun c => ?_
  unfold F86
  simp
  have hlen := mks_len mkMethod cMethod k l
  refine loop_drop l.length (fun i e H c' => e 0 = (SL.mk t (mks mkMethod cMethod k l)).av 5 TMethod.enc ∧ e 1 = .int .i64 (k + szL cMethod (l.take i)) ∧ e 5 = .int .i64 i ∧ H = []) ⟨rfl,by simp [szL],rfl,rfl⟩ ?_
  intro i e H c hi ⟨e0,e1,e5,hH⟩ N hN
  subst hH
  have hg := fun h : i < l.length => mks_get mkMethod cMethod k l h
  have hst := fun h : i < l.length => szL_step cMethod l h
  have hle := szL_le cMethod l i
  have hle' := szL_le cMethod l (i + 1)
  generalize hjj : k + (szL cMethod (l.take i) : Int) = j at e1 hg
  simp [e0,e1,e5,hlen]
  refine ⟨fun h => ?_,fun h => ?_⟩
  · have hg := hg h
    have hst := hst h
    have hx := szL_mem (sz := cMethod) (List.getElem_mem h)
    generalize l[i] = x at hg hst hx
    simp only [cMethod] at hx hst
    have w0 : IntKind.i64.wrap (j + 1) = j + 1 := wrap64 (by omega) (by omega)
    have f0 : (mkMethod j x).Name = mtext (j) := rfl
    have w1 : IntKind.i64.wrap (j + 1 + 1) = j + 1 + 1 := wrap64 (by omega) (by omega)
    have f1 : (mkMethod j x).Owner = mtext (j + 1) := rfl
    have w2 : IntKind.i64.wrap (j + 1 + 1 + 1) = j + 1 + 1 + 1 := wrap64 (by omega) (by omega)
    have f2 : (mkMethod j x).From = mtext (j + 1 + 1) := rfl
    have w3 : IntKind.i64.wrap (j + 1 + 1 + 1 + 1) = j + 1 + 1 + 1 + 1 := wrap64 (by omega) (by omega)
    have f3 : (mkMethod j x).Private = decide ((j + 1 + 1 + 1).tmod 3 = 0) := rfl
    have w4 : IntKind.i64.wrap (j + 1 + 1 + 1 + 1 + 1) = j + 1 + 1 + 1 + 1 + 1 := wrap64 (by omega) (by omega)
    have f4 : (mkMethod j x).Static = decide ((j + 1 + 1 + 1 + 1).tmod 3 = 0) := rfl
    refine ⟨_,hg,?_⟩
    simp [e0,e1,e5,h,w0,w1,w2,w3,w4,f0,f1,f2,f3,f4]
    refine callF_fn0 (mtext_fn (by omega)) .str fun _ _ => ?_
    simp [e0,e1,e5,h,w0,w1,w2,w3,w4,f0,f1,f2,f3,f4]
    refine ⟨_,hg,?_⟩
    simp [e0,e1,e5,h,w0,w1,w2,w3,w4,f0,f1,f2,f3,f4]
    refine callF_fn0 (mtext_fn (by omega)) .str fun _ _ => ?_
    simp [e0,e1,e5,h,w0,w1,w2,w3,w4,f0,f1,f2,f3,f4]
    refine ⟨_,hg,?_⟩
    simp [e0,e1,e5,h,w0,w1,w2,w3,w4,f0,f1,f2,f3,f4]
    refine callF_fn0 (mtext_fn (by omega)) .str fun _ _ => ?_
    simp [e0,e1,e5,h,w0,w1,w2,w3,w4,f0,f1,f2,f3,f4]
    refine ⟨_,hg,?_⟩
    simp [e0,e1,e5,h,w0,w1,w2,w3,w4,f0,f1,f2,f3,f4]
    refine ⟨_,hg,?_⟩
    simp [e0,e1,e5,h,w0,w1,w2,w3,w4,f0,f1,f2,f3,f4]
    refine hN _ _ _ _ h (List.Sublist.refl _) ⟨by simp [upd,e0],?_,by simp [upd]; exact step64 (by unfold mx; omega) h,rfl⟩
    simp [upd,w0,w1,w2,w3,w4,hst]; omega
  · have h1 : i = l.length := by omega
    subst h1
    refine fin_plain ⟨?_,rfl⟩
    rw [← hjj]; simp
theorem heldMethod_fn {s : SL TMethod} (hz : szL cMethod s.list ≤ 16777216) {k : Int} (hk : 0 ≤ k ∧ k ≤ 1099511627776) :
    Fnc Tryz.prog 86 [(s.marks mkMethod cMethod k).av 5 TMethod.enc,.int .i64 k] (.int .i64 (k + szL cMethod s.list)) := by
  cases s with
  | nil =>
    have := heldMethod_nil k
    simpa [SL.av,SL.marks,szL] using this
  | mk t l => exact heldMethod_fn1 (l := l) hz hk t
theorem heldFunc_nil (k : Int) : Fnc Tryz.prog 46 [.nsl,.int .i64 k] (.int .i64 k) := by
  refine fn_of c46 (by simp [F46]) fun c => ?_
  unfold F46
  simp
  refine loop_drop 0 (fun i e H c' => e 0 = .nsl ∧ e 1 = .int .i64 k ∧ e 5 = .int .i64 0 ∧ H = []) ⟨rfl,rfl,rfl,rfl⟩ ?_
  intro i e H c hi ⟨e0,e1,e5,hH⟩ N hN
  subst hH
  simp [e0,e1,e5]
  exact fin_plain ⟨rfl,rfl⟩
set_option maxHeartbeats 4000000 in
theorem heldFunc_fn1 {l : List TFunc} (hz : szL cFunc l ≤ 16777216) {k : Int} (hk : 0 ≤ k ∧ k ≤ 549755813888) (t : Nat) :
    Fnc Tryz.prog 46 [(SL.mk t (mks mkFunc cFunc k l)).av 6 TFunc.enc,.int .i64 k] (.int .i64 (k + szL cFunc l)) := by
  have hln := szL_cFunc l
  refine fn_of c46 (by simp [F46]) fun c => ?_
  unfold F46
  simp
  have hlen := mks_len mkFunc cFunc k l
  refine loop_drop l.length (fun i e H c' => e 0 = (SL.mk t (mks mkFunc cFunc k l)).av 6 TFunc.enc ∧ e 1 = .int .i64 (k + szL cFunc (l.take i)) ∧ e 5 = .int .i64 i ∧ H = []) ⟨rfl,by simp [szL],rfl,rfl⟩ ?_
  intro i e H c hi ⟨e0,e1,e5,hH⟩ N hN
  subst hH
  have hg := fun h : i < l.length => mks_get mkFunc cFunc k l h
  have hst := fun h : i < l.length => szL_step cFunc l h
  have hle := szL_le cFunc l i
  have hle' := szL_le cFunc l (i + 1)
  generalize hjj : k + (szL cFunc (l.take i) : Int) = j at e1 hg
  simp [e0,e1,e5,hlen]
  refine ⟨fun h => ?_,fun h => ?_⟩
  · have hg := hg h
    have hst := hst h
    have hx := szL_mem (sz := cFunc) (List.getElem_mem h)
    generalize l[i] = x at hg hst hx
    simp only [cFunc] at hx hst
    have w0 : IntKind.i64.wrap (j + 1) = j + 1 := wrap64 (by omega) (by omega)
    have f0 : (mkFunc j x).Name = mtext (j) := rfl
    have f1 : (mkFunc j x).Params = x.Params.marks mkParam cParam (j + 1) := rfl
    have f2 : (mkFunc j x).Uses = x.Uses.marks mkParam cParam (j + 1 + szL cParam x.Params.list) := rfl
    have f3 : (mkFunc j x).Slots = x.Slots.marks mkS cS (j + 1 + szL cParam x.Params.list + szL cParam x.Uses.list) := rfl
    have w4 : IntKind.i64.wrap (j + 1 + szL cParam x.Params.list + szL cParam x.Uses.list + szL cS x.Slots.list + 1) = j + 1 + szL cParam x.Params.list + szL cParam x.Uses.list + szL cS x.Slots.list + 1 := wrap64 (by omega) (by omega)
    have f4 : (mkFunc j x).Gen = decide ((j + 1 + szL cParam x.Params.list + szL cParam x.Uses.list + szL cS x.Slots.list).tmod 3 = 0) := rfl
    have f5 : (mkFunc j x).Code = x.Code.marks mkIns cIns (j + 1 + szL cParam x.Params.list + szL cParam x.Uses.list + szL cS x.Slots.list + 1) := rfl
    have p1 : ¬ (j + 1 + szL cParam x.Params.list < 0) := by omega
    have p2 : ¬ (j + 1 + szL cParam x.Params.list + szL cParam x.Uses.list < 0) := by omega
    have p3 : ¬ (j + 1 + szL cParam x.Params.list + szL cParam x.Uses.list + szL cS x.Slots.list < 0) := by omega
    have p5 : ¬ (j + 1 + szL cParam x.Params.list + szL cParam x.Uses.list + szL cS x.Slots.list + 1 + szL cIns x.Code.list < 0) := by omega
    refine ⟨_,hg,?_⟩
    simp [e0,e1,e5,h,w0,w4,f0,f1,f2,f3,f4,f5,p1,p2,p3,p5]
    refine callF_fn0 (mtext_fn (by omega)) .str fun _ _ => ?_
    simp [e0,e1,e5,h,w0,w4,f0,f1,f2,f3,f4,f5,p1,p2,p3,p5]
    refine ⟨_,hg,?_⟩
    simp [e0,e1,e5,h,w0,w4,f0,f1,f2,f3,f4,f5,p1,p2,p3,p5]
    refine call_fn0 (heldParam_fn (s := x.Params) (by omega) (k := j + 1) ⟨by omega,by omega⟩) .int fun _ _ => ?_
    simp [e0,e1,e5,h,w0,w4,f0,f1,f2,f3,f4,f5,p1,p2,p3,p5]
    refine ⟨_,hg,?_⟩
    simp [e0,e1,e5,h,w0,w4,f0,f1,f2,f3,f4,f5,p1,p2,p3,p5]
    refine call_fn0 (heldParam_fn (s := x.Uses) (by omega) (k := j + 1 + szL cParam x.Params.list) ⟨by omega,by omega⟩) .int fun _ _ => ?_
    simp [e0,e1,e5,h,w0,w4,f0,f1,f2,f3,f4,f5,p1,p2,p3,p5]
    refine ⟨_,hg,?_⟩
    simp [e0,e1,e5,h,w0,w4,f0,f1,f2,f3,f4,f5,p1,p2,p3,p5]
    refine call_fn0 (heldString_fn (s := x.Slots) (by omega) (k := j + 1 + szL cParam x.Params.list + szL cParam x.Uses.list) ⟨by omega,by omega⟩) .int fun _ _ => ?_
    simp [e0,e1,e5,h,w0,w4,f0,f1,f2,f3,f4,f5,p1,p2,p3,p5]
    refine ⟨_,hg,?_⟩
    simp [e0,e1,e5,h,w0,w4,f0,f1,f2,f3,f4,f5,p1,p2,p3,p5]
    refine ⟨_,hg,?_⟩
    simp [e0,e1,e5,h,w0,w4,f0,f1,f2,f3,f4,f5,p1,p2,p3,p5]
    refine call_fn0 (heldIns_fn (s := x.Code) (by omega) (k := j + 1 + szL cParam x.Params.list + szL cParam x.Uses.list + szL cS x.Slots.list + 1) ⟨by omega,by omega⟩) .int fun _ _ => ?_
    simp [e0,e1,e5,h,w0,w4,f0,f1,f2,f3,f4,f5,p1,p2,p3,p5]
    refine hN _ _ _ _ h (List.Sublist.refl _) ⟨by simp [upd,e0],?_,by simp [upd]; exact step64 (by unfold mx; omega) h,rfl⟩
    simp [upd,w0,w4,hst]; omega
  · have h1 : i = l.length := by omega
    subst h1
    refine fin_plain ⟨?_,rfl⟩
    rw [← hjj]; simp
theorem heldFunc_fn {s : SL TFunc} (hz : szL cFunc s.list ≤ 16777216) {k : Int} (hk : 0 ≤ k ∧ k ≤ 549755813888) :
    Fnc Tryz.prog 46 [(s.marks mkFunc cFunc k).av 6 TFunc.enc,.int .i64 k] (.int .i64 (k + szL cFunc s.list)) := by
  cases s with
  | nil =>
    have := heldFunc_nil k
    simpa [SL.av,SL.marks,szL] using this
  | mk t l => exact heldFunc_fn1 (l := l) hz hk t
theorem heldField_nil (k : Int) : Fnc Tryz.prog 85 [.nsl,.int .i64 k] (.int .i64 k) := by
  refine fn_of c85 (by simp [F85]) fun c => ?_
  unfold F85
  simp
  refine loop_drop 0 (fun i e H c' => e 0 = .nsl ∧ e 1 = .int .i64 k ∧ e 5 = .int .i64 0 ∧ H = []) ⟨rfl,rfl,rfl,rfl⟩ ?_
  intro i e H c hi ⟨e0,e1,e5,hH⟩ N hN
  subst hH
  simp [e0,e1,e5]
  exact fin_plain ⟨rfl,rfl⟩
set_option maxHeartbeats 4000000 in
theorem heldField_fn1 {l : List TField} (hz : szL cField l ≤ 16777216) {k : Int} (hk : 0 ≤ k ∧ k ≤ 549755813888) (t : Nat) :
    Fnc Tryz.prog 85 [(SL.mk t (mks mkField cField k l)).av 8 TField.enc,.int .i64 k] (.int .i64 (k + szL cField l)) := by
  have hln := szL_cField l
  refine fn_of c85 (by simp [F85]) fun c => ?_
  unfold F85
  simp
  have hlen := mks_len mkField cField k l
  refine loop_drop l.length (fun i e H c' => e 0 = (SL.mk t (mks mkField cField k l)).av 8 TField.enc ∧ e 1 = .int .i64 (k + szL cField (l.take i)) ∧ e 5 = .int .i64 i ∧ H = []) ⟨rfl,by simp [szL],rfl,rfl⟩ ?_
  intro i e H c hi ⟨e0,e1,e5,hH⟩ N hN
  subst hH
  have hg := fun h : i < l.length => mks_get mkField cField k l h
  have hst := fun h : i < l.length => szL_step cField l h
  have hle := szL_le cField l i
  have hle' := szL_le cField l (i + 1)
  generalize hjj : k + (szL cField (l.take i) : Int) = j at e1 hg
  simp [e0,e1,e5,hlen]
  refine ⟨fun h => ?_,fun h => ?_⟩
  · have hg := hg h
    have hst := hst h
    have hx := szL_mem (sz := cField) (List.getElem_mem h)
    generalize l[i] = x at hg hst hx
    simp only [cField] at hx hst
    have w0 : IntKind.i64.wrap (j + 1) = j + 1 := wrap64 (by omega) (by omega)
    have f0 : (mkField j x).Name = mtext (j) := rfl
    have w1 : IntKind.i64.wrap (j + 1 + 1) = j + 1 + 1 := wrap64 (by omega) (by omega)
    have f1 : (mkField j x).Owner = mtext (j + 1) := rfl
    have w2 : IntKind.i64.wrap (j + 1 + 1 + 1) = j + 1 + 1 + 1 := wrap64 (by omega) (by omega)
    have f2 : (mkField j x).Private = decide ((j + 1 + 1).tmod 3 = 0) := rfl
    have w3 : IntKind.i64.wrap (j + 1 + 1 + 1 + 1) = j + 1 + 1 + 1 + 1 := wrap64 (by omega) (by omega)
    have f3 : (mkField j x).Init.Kind = j + 1 + 1 + 1 := rfl
    have w4 : IntKind.i64.wrap (j + 1 + 1 + 1 + 1 + 1) = j + 1 + 1 + 1 + 1 + 1 := wrap64 (by omega) (by omega)
    have f4 : (mkField j x).Init.Num = j + 1 + 1 + 1 + 1 := rfl
    have w5 : IntKind.i64.wrap (j + 1 + 1 + 1 + 1 + 1 + 1) = j + 1 + 1 + 1 + 1 + 1 + 1 := wrap64 (by omega) (by omega)
    have f5 : (mkField j x).Init.Str = mtext (j + 1 + 1 + 1 + 1 + 1) := rfl
    have w6 : IntKind.i64.wrap (j + 1 + 1 + 1 + 1 + 1 + 1 + 1) = j + 1 + 1 + 1 + 1 + 1 + 1 + 1 := wrap64 (by omega) (by omega)
    have f6 : (mkField j x).Init.Next = j + 1 + 1 + 1 + 1 + 1 + 1 := rfl
    have f7 : (mkField j x).Init.Items = x.Init.Items.marks mkEntry cEntry (j + 1 + 1 + 1 + 1 + 1 + 1 + 1) := rfl
    have p7 : ¬ (j + 1 + 1 + 1 + 1 + 1 + 1 + 1 + szL cEntry x.Init.Items.list < 0) := by omega
    refine ⟨_,hg,?_⟩
    simp [e0,e1,e5,h,w0,w1,w2,w3,w4,w5,w6,f0,f1,f2,f3,f4,f5,f6,f7,p7]
    refine callF_fn0 (mtext_fn (by omega)) .str fun _ _ => ?_
    simp [e0,e1,e5,h,w0,w1,w2,w3,w4,w5,w6,f0,f1,f2,f3,f4,f5,f6,f7,p7]
    refine ⟨_,hg,?_⟩
    simp [e0,e1,e5,h,w0,w1,w2,w3,w4,w5,w6,f0,f1,f2,f3,f4,f5,f6,f7,p7]
    refine callF_fn0 (mtext_fn (by omega)) .str fun _ _ => ?_
    simp [e0,e1,e5,h,w0,w1,w2,w3,w4,w5,w6,f0,f1,f2,f3,f4,f5,f6,f7,p7]
    refine ⟨_,hg,?_⟩
    simp [e0,e1,e5,h,w0,w1,w2,w3,w4,w5,w6,f0,f1,f2,f3,f4,f5,f6,f7,p7]
    refine ⟨_,hg,?_⟩
    simp [e0,e1,e5,h,w0,w1,w2,w3,w4,w5,w6,f0,f1,f2,f3,f4,f5,f6,f7,p7]
    refine ⟨_,hg,?_⟩
    simp [e0,e1,e5,h,w0,w1,w2,w3,w4,w5,w6,f0,f1,f2,f3,f4,f5,f6,f7,p7]
    refine ⟨_,hg,?_⟩
    simp [e0,e1,e5,h,w0,w1,w2,w3,w4,w5,w6,f0,f1,f2,f3,f4,f5,f6,f7,p7]
    refine callF_fn0 (mtext_fn (by omega)) .str fun _ _ => ?_
    simp [e0,e1,e5,h,w0,w1,w2,w3,w4,w5,w6,f0,f1,f2,f3,f4,f5,f6,f7,p7]
    refine ⟨_,hg,?_⟩
    simp [e0,e1,e5,h,w0,w1,w2,w3,w4,w5,w6,f0,f1,f2,f3,f4,f5,f6,f7,p7]
    refine ⟨_,hg,?_⟩
    simp [e0,e1,e5,h,w0,w1,w2,w3,w4,w5,w6,f0,f1,f2,f3,f4,f5,f6,f7,p7]
    refine call_fn0 (heldEntry_fn (s := x.Init.Items) (by omega) (k := j + 1 + 1 + 1 + 1 + 1 + 1 + 1) ⟨by omega,by omega⟩) .int fun _ _ => ?_
    simp [e0,e1,e5,h,w0,w1,w2,w3,w4,w5,w6,f0,f1,f2,f3,f4,f5,f6,f7,p7]
    refine hN _ _ _ _ h (List.Sublist.refl _) ⟨by simp [upd,e0],?_,by simp [upd]; exact step64 (by unfold mx; omega) h,rfl⟩
    simp [upd,w0,w1,w2,w3,w4,w5,w6,hst]; omega
  · have h1 : i = l.length := by omega
    subst h1
    refine fin_plain ⟨?_,rfl⟩
    rw [← hjj]; simp
theorem heldField_fn {s : SL TField} (hz : szL cField s.list ≤ 16777216) {k : Int} (hk : 0 ≤ k ∧ k ≤ 549755813888) :
    Fnc Tryz.prog 85 [(s.marks mkField cField k).av 8 TField.enc,.int .i64 k] (.int .i64 (k + szL cField s.list)) := by
  cases s with
  | nil =>
    have := heldField_nil k
    simpa [SL.av,SL.marks,szL] using this
  | mk t l => exact heldField_fn1 (l := l) hz hk t
theorem heldClass_nil (k : Int) : Fnc Tryz.prog 47 [.nsl,.int .i64 k] (.int .i64 k) := by
  refine fn_of c47 (by simp [F47]) fun c => ?_
  unfold F47
  simp
  refine loop_drop 0 (fun i e H c' => e 0 = .nsl ∧ e 1 = .int .i64 k ∧ e 5 = .int .i64 0 ∧ H = []) ⟨rfl,rfl,rfl,rfl⟩ ?_
  intro i e H c hi ⟨e0,e1,e5,hH⟩ N hN
  subst hH
  simp [e0,e1,e5]
  exact fin_plain ⟨rfl,rfl⟩
set_option maxHeartbeats 4000000 in
theorem heldClass_fn1 {l : List TClass} (hz : szL cClass l ≤ 16777216) {k : Int} (hk : 0 ≤ k ∧ k ≤ 274877906944) (t : Nat) :
    Fnc Tryz.prog 47 [(SL.mk t (mks mkClass cClass k l)).av 4 TClass.enc,.int .i64 k] (.int .i64 (k + szL cClass l)) := by
  have hln := szL_cClass l
  refine fn_of c47 (by simp [F47]) fun c => ?_
  unfold F47
  simp
  have hlen := mks_len mkClass cClass k l
  refine loop_drop l.length (fun i e H c' => e 0 = (SL.mk t (mks mkClass cClass k l)).av 4 TClass.enc ∧ e 1 = .int .i64 (k + szL cClass (l.take i)) ∧ e 5 = .int .i64 i ∧ H = []) ⟨rfl,by simp [szL],rfl,rfl⟩ ?_
  intro i e H c hi ⟨e0,e1,e5,hH⟩ N hN
  subst hH
  have hg := fun h : i < l.length => mks_get mkClass cClass k l h
  have hst := fun h : i < l.length => szL_step cClass l h
  have hle := szL_le cClass l i
  have hle' := szL_le cClass l (i + 1)
  generalize hjj : k + (szL cClass (l.take i) : Int) = j at e1 hg
  simp [e0,e1,e5,hlen]
  refine ⟨fun h => ?_,fun h => ?_⟩
  · have hg := hg h
    have hst := hst h
    have hx := szL_mem (sz := cClass) (List.getElem_mem h)
    generalize l[i] = x at hg hst hx
    simp only [cClass] at hx hst
    have w0 : IntKind.i64.wrap (j + 1) = j + 1 := wrap64 (by omega) (by omega)
    have f0 : (mkClass j x).Name = mtext (j) := rfl
    have w1 : IntKind.i64.wrap (j + 1 + 1) = j + 1 + 1 := wrap64 (by omega) (by omega)
    have f1 : (mkClass j x).Parent = mtext (j + 1) := rfl
    have f2 : (mkClass j x).Fields = x.Fields.marks mkField cField (j + 1 + 1) := rfl
    have f3 : (mkClass j x).Methods = x.Methods.marks mkMethod cMethod (j + 1 + 1 + szL cField x.Fields.list) := rfl
    have p2 : ¬ (j + 1 + 1 + szL cField x.Fields.list < 0) := by omega
    have p3 : ¬ (j + 1 + 1 + szL cField x.Fields.list + szL cMethod x.Methods.list < 0) := by omega
    refine ⟨_,hg,?_⟩
    simp [e0,e1,e5,h,w0,w1,f0,f1,f2,f3,p2,p3]
    refine callF_fn0 (mtext_fn (by omega)) .str fun _ _ => ?_
    simp [e0,e1,e5,h,w0,w1,f0,f1,f2,f3,p2,p3]
    refine ⟨_,hg,?_⟩
    simp [e0,e1,e5,h,w0,w1,f0,f1,f2,f3,p2,p3]
    refine callF_fn0 (mtext_fn (by omega)) .str fun _ _ => ?_
    simp [e0,e1,e5,h,w0,w1,f0,f1,f2,f3,p2,p3]
    refine ⟨_,hg,?_⟩
    simp [e0,e1,e5,h,w0,w1,f0,f1,f2,f3,p2,p3]
    refine call_fn0 (heldField_fn (s := x.Fields) (by omega) (k := j + 1 + 1) ⟨by omega,by omega⟩) .int fun _ _ => ?_
    simp [e0,e1,e5,h,w0,w1,f0,f1,f2,f3,p2,p3]
    refine ⟨_,hg,?_⟩
    simp [e0,e1,e5,h,w0,w1,f0,f1,f2,f3,p2,p3]
    refine call_fn0 (heldMethod_fn (s := x.Methods) (by omega) (k := j + 1 + 1 + szL cField x.Fields.list) ⟨by omega,by omega⟩) .int fun _ _ => ?_
    simp [e0,e1,e5,h,w0,w1,f0,f1,f2,f3,p2,p3]
    refine hN _ _ _ _ h (List.Sublist.refl _) ⟨by simp [upd,e0],?_,by simp [upd]; exact step64 (by unfold mx; omega) h,rfl⟩
    simp [upd,w0,w1,hst]; omega
  · have h1 : i = l.length := by omega
    subst h1
    refine fin_plain ⟨?_,rfl⟩
    rw [← hjj]; simp
theorem heldClass_fn {s : SL TClass} (hz : szL cClass s.list ≤ 16777216) {k : Int} (hk : 0 ≤ k ∧ k ≤ 274877906944) :
    Fnc Tryz.prog 47 [(s.marks mkClass cClass k).av 4 TClass.enc,.int .i64 k] (.int .i64 (k + szL cClass s.list)) := by
  cases s with
  | nil =>
    have := heldClass_nil k
    simpa [SL.av,SL.marks,szL] using this
  | mk t l => exact heldClass_fn1 (l := l) hz hk t
set_option maxRecDepth 100000
theorem heldProgram_fn {s : TProgram} (z1 : szL cFunc s.Funcs.list ≤ 16777216) (z2 : szL cClass s.Classes.list ≤ 16777216) {k : Int} (hk : 0 ≤ k ∧ k ≤ 137438953472) :
    Fnc Tryz.prog 18 [.agg (mkProgram k s).enc,.int .i64 k] (.int .i64 (k + cProgram s)) := by
  have q : (mkProgram k s).enc = [(s.Funcs.marks mkFunc cFunc k).av 6 TFunc.enc,(s.Classes.marks mkClass cClass (k + szL cFunc s.Funcs.list)).av 4 TClass.enc] := rfl
  have p1 : ¬ (k + (szL cFunc s.Funcs.list : Int) < 0) := by omega
  have p2 : ¬ (k + (szL cFunc s.Funcs.list : Int) + (szL cClass s.Classes.list : Int) < 0) := by omega
  refine fn_of c18 (by simp [F18]) fun c => ?_
  unfold F18
  simp [q]
  refine call_fn0 (heldFunc_fn (s := s.Funcs) z1 ⟨by omega,by omega⟩) .int fun _ _ => ?_
  simp [q,p1]
  refine call_fn0 (heldClass_fn (s := s.Classes) z2 ⟨by omega,by omega⟩) .int fun _ _ => ?_
  simp [q,p1,p2]
  exact fin_plain ⟨by simp [cProgram]; omega,rfl⟩
theorem view_mProgram {S : List AObj} {s : TProgram} {k : Int} (hs : ∀ o,o ∈ (mkProgram k s).inn → o ∈ S) : View S (.agg s.encO) (.agg (mkProgram k s).enc) := by
  rw [← mkProgram_encO k s]
  exact view_AProgram hs
set_option maxHeartbeats 4000000 in
theorem law_fet {s : SL TLine} {at_ v : Int} (hs : okLineS s) (hw1 : IOk .i64 at_) (hw2 : IOk .i64 v) (c : Nat) : Con Tryz.prog 4 [s.av 4 TLine.enc,.int .i64 at_,.int .i64 v] [] c fun r H' _ => r = .bool true ∧ H' = [] := by
  refine con_of c4 (by simp [F4]) ?_
  unfold F4
  simp
  refine call_fn0 (szLineS_fn hs ⟨by omega,by omega⟩) .int fun _ _ => ?_
  simp
  refine ⟨fun _ => fin_plain ⟨rfl,rfl⟩,fun h => ?_⟩
  have hz : szLineS s ≤ 1048576 := by have := (szOf_ge h).2; omega
  have hb : ∀ b : SL TLine,b.list.map TLine.con = s.list.map TLine.con → szL cLine b.list ≤ 8388608 ∧ (∀ x,x ∈ b.list → x.Words.list.length ≤ 1048576) ∧ b.list.length ≤ 1048576 := fun b hb => szLine_bounds (by have := szLineS_con hb; unfold szLineS at this hz; omega)
  have hsz : ∀ b : SL TLine,b.list.map TLine.con = s.list.map TLine.con → szLineS b ≤ 1099511627776 := fun b hb => by have := szLineS_con hb; omega
  have hfr : ∀ b : SL TLine,b.list.map TLine.con = s.list.map TLine.con → fetOk at_ v b.list = fetOk at_ v s.list ∧ fetP at_ v b.list = fetP at_ v s.list := fun b hb => fet_same hb
  have hpz : ∀ q : TProgram,q.con = (fetP at_ v s.list).con → q.sz ≤ 1048576 := fun q hq => by
    have := fetP_sz at_ v s.list
    rw [← q.sz_con,hq,(fetP at_ v s.list).sz_con]
    omega
  refine call_tree0 (toLineS_fn hz) fun r1 _ _ ⟨b1,e1,q1⟩ _ => ?_
  subst e1
  simp
  refine call_new (spec_fetO (hb _ q1).2.2 (hb _ q1).2.1 _) (Views.refl _ _) fun r2 O c2 hc2 ⟨w,e2,hO,q2⟩ _ _ => ?_
  subst e2 hO
  rw [(hfr _ q1).1]
  rw [(hfr _ q1).2] at q2
  refine ⟨_,.refl _,free_tup (by simp [free_agg (TProgram.freeO w),free_bool]) _,fun o ho => TProgram.freeI w o ho _,?_⟩
  simp [putA]
  generalize hW : w.inn = W
  have zw : ∀ o,o ∈ w.inn → o ∈ W := fun o ho => hW ▸ ho
  refine call_new (toLineSO hz _) (Views.refl _ _) fun r3 O c3 hc3 ⟨x,e3,hO,qx⟩ _ _ => ?_
  subst e3; subst hO
  refine ⟨_,.refl _,free_ref _ _ _,fun o ho => free_wood TLine.freeO TLine.freeI _ o ho _,?_⟩
  simp [putA]
  refine call_new (impl_fetO (s := x) (at_ := at_) (v := v) (hb _ qx).2.2 (hb _ qx).2.1 _) (.cons (view_line (fun o ho => by simp [ho])) (Views.refl _ _)) fun r4 O c4 hc4 ⟨g,e4,hO,qg⟩ _ _ => ?_
  subst e4; subst hO
  rw [(hfr _ qx).1]
  rw [(hfr _ qx).2] at qg
  refine ⟨_,.refl _,free_tup (by simp [free_agg (TProgram.freeO g),free_bool]) _,fun o ho => TProgram.freeI g o ho _,?_⟩
  simp only [List.append_assoc,List.cons_append,List.nil_append]
  obtain ⟨Z,hZ⟩ : ∃ Z,Z = W ++ (⟨false,c2,2,[w.encO]⟩ : AObj) :: (x.wood 4 TLine.encO TLine.inn ++ g.inn) := ⟨_,rfl⟩
  rw [← hZ]
  have hgw : ∀ (T : List AObj) (K : AObj → Prop),getW (Z ++ T) W.length K = K ⟨false,c2,2,[w.encO]⟩ := fun T K => getW_of (by rw [hZ]; simp) K
  have zw2 : ∀ o,o ∈ w.inn → o ∈ Z := fun o ho => by rw [hZ]; simp [zw o ho]
  have zx2 : ∀ o,o ∈ x.wood 4 TLine.encO TLine.inn → o ∈ Z := fun o ho => by rw [hZ]; simp [ho]
  have zg2 : ∀ o,o ∈ g.inn → o ∈ Z := fun o ho => by rw [hZ]; simp [ho]
  simp [putA,hgw]
  have hgz := hpz _ qg
  have heq : Fnc Tryz.prog 12 [.agg g.enc,.agg w.enc] (.bool true) := TProgram.eq_fn (by omega) (qg.trans q2.symm)
  refine call_fn heq (.cons (view_AProgram (fun o ho => by simp [zg2 o ho])) (.cons (view_AProgram (fun o ho => by simp [zw2 o ho])) .nil)) .bool fun _ _ => ?_
  simp [putA,hgw]
  refine call_tree0 (toLineS_fn hz) fun r5 _ _ ⟨b5,e5,q5⟩ _ => ?_
  subst e5
  simp [putA,hgw]
  refine call_fn (eqLineS_fn (s := x) (t := b5) (hsz _ qx) (by rw [qx,q5])) (.cons (view_line (fun o ho => by simp [zx2 o ho])) (.cons (.refl _) .nil)) .bool fun _ _ => ?_
  simp [putA,hgw]
  obtain ⟨bx1,bx2,bx3⟩ := hb _ qx
  obtain ⟨bg1,bg2⟩ := prog_bounds hgz
  refine call_atH (A := W ++ [⟨false,c2,2,[w.encO]⟩]) (B := x.wood 4 TLine.encO TLine.inn) (C := g.inn ++ [⟨false,c4,2,[g.encO]⟩]) (markLine_con (s := x) (k := 1) bx1 bx2 ⟨by omega,by omega⟩ _) (Views.refl _ _) (by rw [hZ]; simp) fun r B' c7 _ ⟨e8,e9⟩ => ?_
  subst e8; subst e9
  refine ⟨tags_wood (w := 4) (encO := TLine.encO) (inn := TLine.inn) (mk := mkLine) (cnt := cLine) mkLine_tags 1 x,.int,fun o ho => free_wood TLine.freeO TLine.freeI _ o ho _,?_⟩
  have hl1 := marks_wood_len (w := 4) (encO := TLine.encO) (inn := TLine.inn) (mk := mkLine) (cnt := cLine) mkLine_tags 1 x
  generalize hX' : (x.marks mkLine cLine 1).wood 4 TLine.encO TLine.inn = X' at hl1
  obtain ⟨Z1,hZ1,hl2⟩ : ∃ Z1,Z1 = W ++ (⟨false,c2,2,[w.encO]⟩ : AObj) :: (X' ++ g.inn) ∧ Z.length = Z1.length := ⟨_,rfl,by rw [hZ]; simp [hl1]⟩
  rw [show (W ++ [(⟨false,c2,2,[w.encO]⟩ : AObj)]) ++ (X' ++ (g.inn ++ [⟨false,c4,2,[g.encO]⟩])) = Z1 ++ [⟨false,c4,2,[g.encO]⟩] by rw [hZ1]; simp]
  have hgw1 : ∀ (T : List AObj) (K : AObj → Prop),getW (Z1 ++ T) W.length K = K ⟨false,c2,2,[w.encO]⟩ := fun T K => getW_of (by rw [hZ1]; simp) K
  have hk1 : ¬ ((1 : Int) + (szL cLine x.list : Int) < 0) := by omega
  simp [putA,hl2,hgw1,hk1]
  refine call_fn heq (.cons (view_AProgram (fun o ho => by rw [hZ1]; simp [ho])) (.cons (view_AProgram (fun o ho => by rw [hZ1]; simp [zw o ho])) .nil)) .bool fun _ _ => ?_
  simp [putA,hl2,hgw1,hk1]
  refine call_atH (A := W ++ (⟨false,c2,2,[w.encO]⟩ : AObj) :: X') (B := g.inn) (C := [⟨false,c4,2,[g.encO]⟩]) (markProgram_con (s := g) (k := 1) bg1 bg2 ⟨by omega,by omega⟩ _) (Views.refl _ _) (by rw [hZ1]; simp) fun r B' c8 _ ⟨e8,e9⟩ => ?_
  subst e8; subst e9
  refine ⟨mkProgram_tags _ g,.int,fun o ho => TProgram.freeI _ o ho _,?_⟩
  have hl3 := mkProgram_len 1 g
  generalize hG' : (mkProgram 1 g).inn = G' at hl3
  obtain ⟨Z2,hZ2,hl4⟩ : ∃ Z2,Z2 = W ++ (⟨false,c2,2,[w.encO]⟩ : AObj) :: (X' ++ G') ∧ Z1.length = Z2.length := ⟨_,rfl,by rw [hZ1]; simp [hl3]⟩
  rw [show (W ++ (⟨false,c2,2,[w.encO]⟩ : AObj) :: X') ++ (G' ++ [⟨false,c4,2,[g.encO]⟩]) = Z2 ++ [⟨false,c4,2,[g.encO]⟩] by rw [hZ2]; simp]
  have hgw2 : ∀ (T : List AObj) (K : AObj → Prop),getW (Z2 ++ T) W.length K = K ⟨false,c2,2,[w.encO]⟩ := fun T K => getW_of (by rw [hZ2]; simp) K
  have hzg : ∀ (T : List AObj) o,o ∈ (mkProgram 1 g).inn → o ∈ Z2 ++ T := fun T o ho => by rw [hZ2]; rw [hG'] at ho; simp [ho]
  have hk2 : ¬ ((1 : Int) + (cProgram g : Int) < 0) := by omega
  simp [putA,hl4,hgw2,hk1,hk2]
  refine call_fn (heldProgram_fn (s := g) (k := 1) bg1 bg2 ⟨by omega,by omega⟩) (.cons (view_mProgram (k := 1) (hzg _)) (.cons (.refl _) .nil)) .int fun _ _ => ?_
  simp [putA,hl4,hgw2,hk1,hk2]
  refine call_tree0 (toLineS_fn hz) fun r6 _ _ ⟨b6,e6,q6⟩ _ => ?_
  subst e6
  simp [putA,hl4,hgw2,hk1,hk2]
  refine call_new (impl_fetO (s := b6) (at_ := at_) (v := v) (hb _ q6).2.2 (hb _ q6).2.1 _) (Views.refl _ _) fun r7 O c10 hc10 ⟨h,e7,hO,qh⟩ _ _ => ?_
  subst e7; subst hO
  rw [(hfr _ q6).1]
  rw [(hfr _ q6).2] at qh
  refine ⟨_,.refl _,free_tup (by simp [free_agg (TProgram.freeO h),free_bool]) _,fun o ho => TProgram.freeI h o ho _,?_⟩
  simp only [List.append_assoc,List.cons_append,List.nil_append]
  obtain ⟨Y,hY⟩ : ∃ Y,Y = Z2 ++ (⟨false,c4,2,[g.encO]⟩ : AObj) :: h.inn := ⟨_,rfl⟩
  rw [← hY]
  have hgw3 : ∀ (T : List AObj) (K : AObj → Prop),getW (Y ++ T) W.length K = K ⟨false,c2,2,[w.encO]⟩ := fun T K => by rw [hY,List.append_assoc]; exact hgw2 _ K
  have hgg3 : ∀ (T : List AObj) (K : AObj → Prop),getW (Y ++ T) Z2.length K = K ⟨false,c4,2,[g.encO]⟩ := fun T K => getW_of (by rw [hY]; simp) K
  have hzw3 : ∀ (T : List AObj) o,o ∈ w.inn → o ∈ Y ++ T := fun T o ho => by rw [hY,hZ2]; simp [zw o ho]
  have hzg3 : ∀ (T : List AObj) o,o ∈ (mkProgram 1 g).inn → o ∈ Y ++ T := fun T o ho => by rw [hY,hZ2]; rw [hG'] at ho; simp [ho]
  have hzh3 : ∀ (T : List AObj) o,o ∈ h.inn → o ∈ Y ++ T := fun T o ho => by rw [hY]; simp [ho]
  simp [putA,hgw3,hgg3,hk1,hk2]
  refine call_fn (TProgram.eq_fn (by have := hpz _ qh; omega) (qh.trans q2.symm)) (.cons (view_AProgram (hzh3 _)) (.cons (view_AProgram (hzw3 _)) .nil)) .bool fun _ _ => ?_
  simp [putA,hgw3,hgg3,hk1,hk2]
  refine call_fn (heldProgram_fn (s := g) (k := 1) bg1 bg2 ⟨by omega,by omega⟩) (.cons (view_mProgram (k := 1) (hzg3 _)) (.cons (.refl _) .nil)) .int fun _ _ => ?_
  simp [putA,hgw3,hgg3,hk1,hk2]
  exact fin_plain ⟨rfl,rfl⟩
open Go.RowKit
set_option linter.unusedVariables false
theorem iface_of_head {P : Program} {W : World} {name nm : String} {d : DataW Unit} {rest : List (String × DataW Unit)} {g : Nat} {ti : TypeId}
    (hg : P.globalNamed name = some g) (hty : (P.globals[g]?).map (·.type) = some ti) (hi : isIfcT P ti = true) (h : laidMet P ((name,.iface nm d) :: rest) W) :
    ∃ t fr u v,W.heap[g]? = some (.cells #[.iface u v] t fr) := by
  obtain ⟨ps,⟨g',t',cs,fuel,p,q,hg',ht',hvar,hd,_,_⟩,_⟩ := h
  obtain rfl := Option.some.inj (hg.symm.trans hg')
  obtain rfl := Option.some.inj (hty.symm.trans ht')
  obtain ⟨ms,hms⟩ : ∃ ms,P.underlying ti = some (.interface ms) := by
    unfold isIfcT at hi
    split at hi
    · rename_i ms h; exact ⟨ms,h⟩
    · cases hi
  obtain ⟨_,u,v,hcs,_,_⟩ := iface_of_trod hms hd
  unfold World.var? at hvar
  rw [hg] at hvar
  simp only [Option.bind_some] at hvar
  split at hvar
  · rename_i cs' t fr hc
    cases hvar
    refine ⟨t,fr,u,v,?_⟩
    rw [hc]
    have : cs = #[.iface u v] := by rw [← Array.toList_inj,hcs]
    rw [this]
  · cases hvar
end A
end Go.Proofs.YtgalkppgeoknaaaGreatDoor

namespace Go.Proofs.YtgalkppgeoknaaaGreatDoor.Closed
open Go.ChangeShapes Go.WideShapes Go.RowKit
theorem heard : Tryz.pinned.checked.prog.stopsHeard = true := by kernel_rfl
theorem enter : Tryz.pinned.checked.prog.mayEnter = true := by kernel_rfl
theorem make : Tryz.pinned.checked.prog.make = some Rows.fnExactPublishProgramRow.make := by kernel_rfl
theorem lifts : Tryz.pinned.checked.prog.liftsFinal = Rows.fnExactPublishProgramRow.lifted := by kernel_rfl
end Go.Proofs.YtgalkppgeoknaaaGreatDoor.Closed

namespace Go.Proofs.YtgalkppgeoknaaaGreatDoor.fnExactFetchProgram
open Go.ChangeShapes Go.WideShapes Go.ChangeAt Go.RowKit
open Go.Proofs.YtgalkppgeoknaaaGreatDoor.A
set_option linter.unusedVariables false
theorem own : ownKnob Tryz.prog.godebug = none := by kernel_rfl
def types : List TypeId := [22,49,3,47,4]
set_option maxRecDepth 100000 in
theorem lifted (os : Os) (started : os.Started) (H : Type) (enc : TypeId × Value → H) :
    ReturnsInHanded {} Tryz.checked os 4 .any (fun w args => (Rows.fnExactFetchProgramSpec.pre enc Tryz.prog Tryz.f4 Rows.fnExactFetchProgramRow.domain false w args ∧ laidMetH Tryz.prog Rows.fnExactFetchProgramRow.laid w) ∧ sizedMet enc Tryz.prog Tryz.f4 (OpenSpec.ofChange Rows.fnExactFetchProgramSpec) false w args) (Rows.fnExactFetchProgramSpec.post enc Tryz.prog Tryz.f4 false true false false) := by
  refine returnsInHanded_of_change_and (C := Tryz.checked) (X := fun w _ => laidMetH Tryz.prog Rows.fnExactFetchProgramRow.laid w) (fun _ _ _ hh h => h.of_heap hh) own started (by kernel_rfl) Tryz.func4
    (ChangeSpec.witness_shaped (enc := enc) (C := Tryz.checked) (os := os) (X := fun w _ => laidMetH Tryz.prog Rows.fnExactFetchProgramRow.laid w) false (World.laidAll Tryz.prog os Rows.fnExactFetchProgramRow.laid) #[.slice none 0 0,.int .i64 0,.int .i64 0] 8 (World.laidAll_os _ _ _)
      (World.shaped_of_ZipB (by kernel_rfl) (by kernel_rfl)) (by kernel_rfl) (by kernel_rfl) (by kernel_rfl)
      (by rw [MakeChecks.laidMetH_plain _ _ _ (by kernel_rfl)]; exact laidMet_laidAll _ (by kernel_rfl) (by kernel_rfl))) ?_
  intro W base args ds gs before hval0 hW hcnd _ hL _
  have htab : Lib.TabIs Tryz.prog W "internal/strconv.uint64pow10" .u64 Lib.pow10Tab := by
    have h1 := hL.filter fun x => x.1 == "internal/strconv.uint64pow10"
    rw [show (Rows.fnExactFetchProgramRow.laid.filter fun x => x.1 == "internal/strconv.uint64pow10") = [("internal/strconv.uint64pow10",Lib.tabData .u64 Lib.pow10Tab)] from by kernel_rfl,MakeChecks.laidMetH_plain _ _ _ (by kernel_rfl)] at h1
    exact Lib.tabIs_of_head (g := 0) (t := 280) (e := 269) (n := 20) (by kernel_rfl) (by kernel_rfl) (by kernel_rfl) (by kernel_rfl) (by kernel_rfl) (by kernel_rfl) h1
  have heS : ∃ t fr u v,W.heap[1]? = some (.cells #[.iface u v] t fr) := by
    have h1 := hL.filter fun x => x.1 == "strconv.ErrSyntax"
    rw [show (Rows.fnExactFetchProgramRow.laid.filter fun x => x.1 == "strconv.ErrSyntax") = [("strconv.ErrSyntax",Rows.laid_strconv_ErrSyntax)] from by kernel_rfl,MakeChecks.laidMetH_plain _ _ _ (by kernel_rfl)] at h1
    exact iface_of_head (ti := 258) (by kernel_rfl) (by kernel_rfl) (by kernel_rfl) h1
  have heR : ∃ t fr u v,W.heap[2]? = some (.cells #[.iface u v] t fr) := by
    have h1 := hL.filter fun x => x.1 == "strconv.ErrRange"
    rw [show (Rows.fnExactFetchProgramRow.laid.filter fun x => x.1 == "strconv.ErrRange") = [("strconv.ErrRange",Rows.laid_strconv_ErrRange)] from by kernel_rfl,MakeChecks.laidMetH_plain _ _ _ (by kernel_rfl)] at h1
    exact iface_of_head (ti := 258) (by kernel_rfl) (by kernel_rfl) (by kernel_rfl) h1
  have hg : ∀ b,b < NB → b < W.heap.size ∧ GL b W.heap[b]? := by
    obtain ⟨t4,fr4,u4,v4,h4⟩ := heS
    obtain ⟨t5,fr5,u5,v5,h5⟩ := heR
    have hs4 := (Array.getElem?_eq_some_iff.1 h4).1
    have hs5 := (Array.getElem?_eq_some_iff.1 h5).1
    unfold Lib.TabIs World.var? at htab
    rw [show Tryz.prog.globalNamed "internal/strconv.uint64pow10" = some 0 by kernel_rfl] at htab
    simp only [Option.bind_some] at htab
    split at htab
    · rename_i cs t1 fr1 hc1
      have hs1 := (Array.getElem?_eq_some_iff.1 hc1).1
      intro b hb
      have hb6 : b < 3 := hb
      refine ⟨by omega,?_,?_⟩
      · intro e; subst e; exact ⟨t1,fr1,by rw [hc1,Option.some.inj htab]⟩
      · rintro (e | e)
        · subst e; exact ⟨_,t4,fr4,.iface u4 v4,h4,rfl,.inr ⟨u4,v4,rfl⟩⟩
        · subst e; exact ⟨_,t5,fr5,.iface u5 v5,h5,rfl,.inr ⟨u5,v5,rfl⟩⟩
    · cases htab
  have hval : ∀ (j : Nat) t v,Tryz.f4.params[j]? = some t → args[j]? = some v → Value.okWide Tryz.prog W .any base t v := hval0
  refine law_post (rs := types) (bt := 4) (by kernel_rfl) (by kernel_rfl) (fun t ht => ?_) Tryz.underlying4 (by kernel_rfl) rfl (fun ds hds => ?_) hW hval (fun l has => ?_) hg
  · rw [Tryz.params4] at ht
    simp at ht
    first
      | (subst ht; exact ⟨by simp [types],by kernel_rfl,of_decide_eq_true (by kernel_rfl)⟩)
      | (rcases ht with rfl | rfl <;> exact ⟨by simp [types],by kernel_rfl,of_decide_eq_true (by kernel_rfl)⟩)
      | (rcases ht with rfl | rfl | rfl <;> exact ⟨by simp [types],by kernel_rfl,of_decide_eq_true (by kernel_rfl)⟩)
      | (rcases ht with rfl | rfl | rfl | rfl <;> exact ⟨by simp [types],by kernel_rfl,of_decide_eq_true (by kernel_rfl)⟩)
      | (rcases ht with rfl | rfl | rfl | rfl | rfl <;> exact ⟨by simp [types],by kernel_rfl,of_decide_eq_true (by kernel_rfl)⟩)
      | (rcases ht with rfl | rfl | rfl | rfl | rfl | rfl <;> exact ⟨by simp [types],by kernel_rfl,of_decide_eq_true (by kernel_rfl)⟩)
  · rw [← Array.length_toList,Tryz.params4] at hds
    match ds,hds with
    | [d0,d1,d2],_ => exact ⟨rfl,rfl,rfl⟩
  · rw [Tryz.params4] at has
    cases has with
    | cons h0 has =>
      cases has with
      | cons h1 has =>
        cases has with
        | cons h2 has =>
          cases has
          obtain ⟨n0,h0⟩ := h0
          rw [if_neg (by decide)] at h0
          obtain ⟨s0,rfl,k0⟩ := shLineS h0
          obtain ⟨n1,h1⟩ := h1
          rw [if_neg (by decide)] at h1
          obtain ⟨s1,rfl,k1⟩ := sh_int (k := .i64) (t := 3) (by kernel_rfl) h1
          obtain ⟨n2,h2⟩ := h2
          rw [if_neg (by decide)] at h2
          obtain ⟨s2,rfl,k2⟩ := sh_int (k := .i64) (t := 3) (by kernel_rfl) h2
          exact A.law_fet k0 k1 k2 _
set_option maxHeartbeats 4000000 in
theorem facts : joinedFacts Tryz.pinned.checked.prog 4 Tryz.f4 Rows.fnExactFetchProgramSpec Rows.fnExactFetchProgramRow = true := by
  unfold joinedFacts
  rw [Closed.heard,Closed.enter,Closed.lifts,Closed.make]
  simp only [Bool.and_eq_true]
  iterate 6 (refine ⟨?_,by as_aux_lemma => kernel_rfl⟩)
  refine ⟨⟨?_,trivial⟩,trivial⟩
  iterate 23 (refine ⟨?_,by as_aux_lemma => kernel_rfl⟩)
  kernel_rfl
theorem named : Tryz.pinned.checked.prog.funcNamed Rows.fnExactFetchProgramRow.func = some 4 := by kernel_rfl
theorem inst : Tryz.f4.isInstance Tryz.pinned.checked.prog Rows.fnExactFetchProgramRow.origin Rows.fnExactFetchProgramRow.targs := of_decide_eq_true (by kernel_rfl)
theorem wrap : Tryz.f4.isWrapper Tryz.pinned.checked.prog Rows.fnExactFetchProgramRow.wrapper Rows.fnExactFetchProgramRow.mainSum := by
  unfold Func.isWrapper
  first
    | (rw [if_pos (by decide +kernel)]; kernel_rfl)
    | (rw [if_neg (by decide +kernel)]; exact ⟨rfl,rfl⟩)
theorem over : Rows.fnExactFetchProgramRow.holds Tryz.pinned (OpenSpec.ofChange Rows.fnExactFetchProgramSpec) :=
  OpenClaim.holds_of_wide 4 Tryz.f4 rfl rfl rfl rfl rfl rfl rfl ⟨rfl,rfl,rfl,rfl,rfl⟩ rfl rfl rfl rfl rfl named Tryz.func4 facts inst wrap
    (fun os started H enc _ => lifted os started H enc)
theorem row : Rows.FnExactFetchProgramSaid := over
theorem proved : Rows.FnExactFetchProgramCardSaid :=
  Claim7.holds_tied_plain_at .later [] [.data,.data,.data,.sentinel,.sentinel] true Rows.fnExactFetchProgramCard.stood.harness true row (fun _ h => by cases h) (by kernel_rfl) (fun _ h => by cases h) fnExactFetchProgram_row_tie rfl ⟨rfl,rfl⟩ (by kernel_rfl) rfl
    (fun f fn hf hfn => by
      obtain rfl : f = 4 := Option.some.inj (named.symm.trans hf) |>.symm
      obtain rfl : fn = Tryz.f4 := (Option.some.inj (Tryz.func4.symm.trans hfn)).symm
      exact ⟨by kernel_rfl,fun j t ht => by
        rw [Tryz.params4] at ht
        have hm : t ∈ [22,3] := by simpa using Array.mem_of_getElem? ht
        have hall : ([22,3].all fun u => !Tryz.prog.wantsStandIn u) = true := by kernel_rfl
        exact (show Tryz.prog.wantsStandIn t = false by simpa using List.all_eq_true.1 hall t hm)⟩)
    (by kernel_rfl)
#print axioms proved
end Go.Proofs.YtgalkppgeoknaaaGreatDoor.fnExactFetchProgram
