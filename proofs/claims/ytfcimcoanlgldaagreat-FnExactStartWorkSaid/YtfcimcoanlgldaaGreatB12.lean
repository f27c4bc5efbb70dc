import Derived.Test.YtfcimcoanlgldaaGreatRows
import Derived.OpenShut
import Derived.Test.YtfcimcoanlgldaaGreatB11

/-
  StartWork of the reference is the same plain function. No condition.
-/

namespace Go.Proofs.YtfcimcoanlgldaaGreat
namespace A
set_option linter.unusedVariables false
set_option linter.unusedSimpArgs false
set_option maxRecDepth 100000

@[simp] theorem getW_p5 {α : Type} (A M1 M2 X Y : List α) (q w o b z : α) (K : α → Prop) : getW (A ++ q :: (M1 ++ w :: (M2 ++ o :: b :: (X ++ z :: Y)))) (A.length + (M1.length + (M2.length + (X.length + 1 + 1) + 1) + 1)) K = K z := by
  have e : A ++ q :: (M1 ++ w :: (M2 ++ o :: b :: (X ++ z :: Y))) = (A ++ q :: (M1 ++ w :: (M2 ++ o :: b :: X))) ++ z :: Y := by simp
  have e2 : A.length + (M1.length + (M2.length + (X.length + 1 + 1) + 1) + 1) = (A ++ q :: (M1 ++ w :: (M2 ++ o :: b :: X))).length := by simp
  rw [e, e2, getW_len]
@[simp] theorem set_p5 {α : Type} (A M1 M2 X Y : List α) (q w o b z u : α) : (A ++ q :: (M1 ++ w :: (M2 ++ o :: b :: (X ++ z :: Y)))).set (A.length + (M1.length + (M2.length + (X.length + 1 + 1) + 1) + 1)) u = A ++ q :: (M1 ++ w :: (M2 ++ o :: b :: (X ++ u :: Y))) := by
  have e : A ++ q :: (M1 ++ w :: (M2 ++ o :: b :: (X ++ z :: Y))) = (A ++ q :: (M1 ++ w :: (M2 ++ o :: b :: X))) ++ z :: Y := by simp
  have e2 : A.length + (M1.length + (M2.length + (X.length + 1 + 1) + 1) + 1) = (A ++ q :: (M1 ++ w :: (M2 ++ o :: b :: X))).length := by simp
  rw [e, e2, List.set_append_right _ _ (Nat.le_refl _)]
  simp
theorem Rens.app {S l l' m m' : List AObj} (h : Rens S l l') (g : Rens S m m') : Rens S (l ++ m) (l' ++ m') := by
  induction h with
  | nil => exact g
  | cons h t ih => exact .cons h ih
theorem ren_setW {t w k i j tf v n : Nat} {rows : List (List AV)} {p q : List AV} : RenO [] ⟨false, t, w, rows.set k (p ++ .ref i tf v n :: q)⟩ ⟨false, t, w, rows.set k (p ++ .ref j tf v n :: q)⟩ :=
  ⟨rfl, rfl, rfl, by simp, (fun h => by cases h), fun r x x' h1 h2 => by
    simp only [List.getElem?_set] at h1 h2
    by_cases hr : k = r
    · rw [if_pos hr] at h1 h2
      by_cases hl : k < rows.length
      · rw [if_pos hl] at h1 h2
        cases h1; cases h2
        refine ⟨by simp, fun b a a' h3 h4 => ?_⟩
        by_cases hb : b < p.length
        · rw [List.getElem?_append_left hb] at h3 h4
          rw [h3] at h4; cases h4; exact .inl rfl
        · rw [List.getElem?_append_right (by omega)] at h3 h4
          cases hd : b - p.length with
          | zero => rw [hd] at h3 h4; simp at h3 h4; subst h3; subst h4; exact .inr ⟨rfl, .name⟩
          | succ d => rw [hd] at h3 h4; simp at h3 h4; rw [h3] at h4; cases h4; exact .inl rfl
      · rw [if_neg hl] at h1; cases h1
    · rw [if_neg hr] at h1 h2
      rw [h1] at h2; cases h2
      exact ⟨rfl, fun b a a' h3 h4 => by rw [h3] at h4; cases h4; exact .inl rfl⟩⟩
theorem openS_cd (id : List UInt8) (who now : Int) (l : List TSession) : (openS id who now l).2.2 = 0 ∨ (openS id who now l).2.2 = 1 ∨ (openS id who now l).2.2 = 2 ∨ (openS id who now l).2.2 = 3 := by
  unfold openS
  split
  · split
    · split
      · split <;> simp
      · simp
    · split <;> simp
  · simp
theorem spec_staK {s : TServer} {w : Int} (hs : SmSrv s) (hso : okSessionS s.Sessions) (hsj : ∀ j, j ∈ s.Queue.list → j.Session.length ≤ mx) (hw : -9223372036854775808 ≤ w ∧ w ≤ 9223372036854775807) (c : Nat) : Con Tryz.prog 12 [.agg s.enc, .int .i64 w] [] c fun r O _ => StaK s w r O := by
  have z7 := hs.2.2.2.2.2.2.1
  have hw1 : IntKind.i64.wrap ((s.Workers.list.length : Int) - 1) = (s.Workers.list.length : Int) - 1 := wrap64 (by omega) (by omega)
  refine con_of c12 (by simp [F12]) ?_
  unfold F12
  cases hok : idleW s w
  · have hno : staOk s w = false := by unfold staOk; rw [hok]; rfl
    simp [putA]
    refine call_new (spec_cpSrvO hs _) (Views.refl _ _) fun r1 O1 c1 hc1 ⟨b0, hr, hO, q0⟩ _ _ => ?_
    subst hr; subst hO
    refine ⟨_, .refl _, free_agg (TServer.freeO b0) _, fun o ho => TServer.freeI b0 o ho _, ?_⟩
    simp [putA, hw1]
    refine call_fn0 (l1In_fn _ _ _) .bool fun _ _ => ?_
    have fin : ∀ (U : List AObj) (x : AObj), StaK s w (.tup [.agg b0.encO, .bool false]) (U ++ (b0.inn ++ [x])) := fun U x => ⟨b0, b0.encO, U, b0.inn ++ [x], [x], by rw [hno], Views.refl _ _, rfl, List.Perm.refl _, by rw [start_no hno]; exact q0⟩
    cases hin : inR w 0 ((s.Workers.list.length : Int) - 1)
    · simp [putA]
      exact fin_all (fin [_, _] _)
    · have hin0 := hin
      unfold inR at hin
      simp only [Bool.and_eq_true, decide_eq_true_eq] at hin
      obtain ⟨k, rfl⟩ := Int.eq_ofNat_of_zero_le hin.1
      have hk : k < s.Workers.list.length := by omega
      have hg : s.Workers.list[k]? = some s.Workers.list[k] := List.getElem?_eq_getElem hk
      unfold idleW at hok
      rw [hin0, Int.toNat_natCast, hg] at hok
      simp only [Bool.true_and, decide_eq_false_iff_not] at hok
      generalize s.Workers.list[k] = x at hg hok
      simp [putA, hk]
      refine ⟨x, hg, ?_⟩
      simp [putA, hk, hok]
      exact fin_all (fin [_, _] _)
  · have hok0 := hok
    unfold idleW at hok
    rw [Bool.and_eq_true] at hok
    obtain ⟨hin0, hst⟩ := hok
    have hin := hin0
    unfold inR at hin
    simp only [Bool.and_eq_true, decide_eq_true_eq] at hin
    obtain ⟨k, rfl⟩ := Int.eq_ofNat_of_zero_le hin.1
    have hk : k < s.Workers.list.length := by omega
    have hg : s.Workers.list[k]? = some s.Workers.list[k] := List.getElem?_eq_getElem hk
    rw [Int.toNat_natCast, hg] at hst
    simp only [decide_eq_true_eq] at hst
    have hw2 : IntKind.i64.wrap ((k : Int) + 1) = (k : Int) + 1 := wrap64 (by omega) (by omega)
    simp [putA]
    refine call_new (spec_cpSrvO hs _) (Views.refl _ _) fun r1 O1 c1 hc1 ⟨b0, hr, hO, q0⟩ _ _ => ?_
    subst hr; subst hO
    have qQ : b0.Queue.list.map TJob.con = s.Queue.list.map TJob.con := congrArg (fun t : TServer => t.Queue.list) q0
    have qS : b0.Sessions.list = s.Sessions.list := sessCon (congrArg (fun t : TServer => t.Sessions.list) q0)
    have qW : b0.Workers.list.map TWorker.con = s.Workers.list.map TWorker.con := congrArg (fun t : TServer => t.Workers.list) q0
    have qWl : b0.Workers.list.length = s.Workers.list.length := by simpa using congrArg List.length qW
    have qQl : b0.Queue.list.length = s.Queue.list.length := by simpa using congrArg List.length qQ
    have qT : b0.Now = s.Now := by have := congrArg (fun t : TServer => t.Now) q0; exact this
    obtain ⟨bF, bL, bS, bQ, bW, bD, bN, bT⟩ := b0
    simp only at qQ qS qW qWl qQl qT
    subst qT
    cases bW with
    | nil => simp at qWl; omega
    | mk t ws =>
    simp only [SL.list_mk] at qW qWl
    cases bQ with
    | nil =>
      have q0l : s.Queue.list = [] := List.eq_nil_of_length_eq_zero (by simpa using qQl.symm)
      have hno : staOk s (k : Int) = false := by unfold staOk staJ; rw [q0l]; simp
      refine ⟨_, .refl _, free_agg (TServer.freeO _) _, fun o ho => TServer.freeI _ o ho _, ?_⟩
      simp [putA, hw1]
      refine call_fn0 (l1In_fn _ _ _) .bool fun _ _ => ?_
      simp [putA, hin0, hk]
      refine ⟨_, hg, ?_⟩
      simp [putA, hin0, hk, hst, hw2, qWl, ref_nil]
      refine loop_drop 0 (fun i e H c' => e 4 = .ptr 1 (c + 1) 8 0 0 ∧ e 2 = .ptr 0 c 8 0 0 ∧ e 6 = .ptr ((TServer.mk bF bL bS .nil (.mk t ws) bD bN s.Now).inn.length + 1 + 1) c1 8 0 0 ∧ e 7 = .int .i64 0 ∧ H = ⟨false, c, 8, [s.enc]⟩ :: ⟨false, c + 1, 8, [[.nsl, .nsl, .nsl, .nsl, .nsl, .nsl, .int .i64 0, .int .i64 0]]⟩ :: ((TServer.mk bF bL bS .nil (.mk t ws) bD bN s.Now).inn ++ [⟨false, c1, 8, [(TServer.mk bF bL bS .nil (.mk t ws) bD bN s.Now).encO]⟩])) ⟨rfl, rfl, rfl, rfl, rfl⟩ ?_
      intro i e H c' hi ⟨e4, e2, e6, e7, hH⟩ N hN
      subst hH
      simp [e4, e2, e6, e7, putA, q0l]
      exact fin_all (⟨⟨bF, bL, bS, .nil, .mk t ws, bD, bN, s.Now⟩, _, [_, _], _, [_], by rw [hno], Views.refl _ _, rfl, List.Perm.refl _, by rw [start_no hno]; exact q0⟩)
    | mk tq l =>
      simp only [SL.list_mk] at qQ qQl
      obtain ⟨A, hA⟩ : ∃ A : List AObj, A = bF.wood 3 TFile.enc noInn ++ (bL.wood 4 TLine.encO TLine.inn ++ bS.wood 4 TSession.enc noInn) := ⟨_, rfl⟩
      obtain ⟨M1, hM1⟩ : ∃ M : List AObj, M = l.flatMap TJob.inn := ⟨_, rfl⟩
      obtain ⟨M2, hM2⟩ : ∃ M : List AObj, M = ws.flatMap TWorker.inn ++ bD.wood 11 TAnswer.encO TAnswer.inn := ⟨_, rfl⟩
      have hI : (TServer.mk bF bL bS (.mk tq l) (.mk t ws) bD bN s.Now).inn = A ++ (⟨false, tq, 5, l.map TJob.encO⟩ :: (M1 ++ (⟨false, t, 9, ws.map TWorker.encO⟩ :: M2))) := by
        rw [hA, hM1, hM2]; simp [TServer.inn, SL.wood, wood]
      rw [hI]
      refine ⟨.agg [bF.ref 3, bL.ref 4, bS.ref 4, .ref (A.length + 2) tq 5 l.length, .ref (A.length + (M1.length + 1) + 2) t 9 ws.length, bD.ref 11, .int .i64 bN, .int .i64 s.Now], view_agg (.cons (.refl _) (.cons (.refl _) (.cons (.refl _) (.cons .name (.cons .name (.cons (.refl _) (.cons (.refl _) (.cons (.refl _) .nil)))))))) ?_, ?_, ?_, ?_⟩
      · intro a ha
        simp only [List.mem_cons, List.not_mem_nil, or_false] at ha
        rcases ha with rfl | rfl | rfl | rfl | rfl | rfl | rfl | rfl <;> first | rfl | exact cell_rf _ _
      · refine free_agg (fun a ha => ?_) _
        simp only [List.mem_cons, List.not_mem_nil, or_false] at ha
        rcases ha with rfl | rfl | rfl | rfl | rfl | rfl | rfl | rfl
        · exact free_ref _ _
        · exact free_ref _ _
        · exact free_ref _ _
        · exact fun _ => .ref
        · exact fun _ => .ref
        · exact free_ref _ _
        · exact free_int _ _
        · exact free_int _ _
      · intro o ho
        rw [← hI] at ho
        exact TServer.freeI _ o ho _
      simp [putA, hw1]
      refine call_fn0 (l1In_fn _ _ _) .bool fun _ _ => ?_
      simp [putA, hin0, hk]
      refine ⟨_, hg, ?_⟩
      simp [putA, hin0, hk, hst, hw2, qWl]
      have hj1 : ∀ i, (hi : i < l.length) → (pickJ s.Now (k : Int) s.Sessions.list l[i]).isSome = (pickJ s.Now (k : Int) s.Sessions.list (s.Queue.list[i]'(by omega))).isSome := fun i hi => by
        have hc : l[i].con = (s.Queue.list[i]'(by omega)).con := by
          have := congrArg (fun m : List TJob => m[i]?) qQ
          simpa [hi, (show i < s.Queue.list.length by omega)] using this
        have := congrArg Option.isSome (pickJ_map s.Now (k : Int) s.Sessions.list hc)
        simpa using this
      refine loop_drop l.length (fun i e H c' => e 1 = .int .i64 k ∧ e 4 = .ptr 1 (c + 1) 8 0 0 ∧ e 6 = .ptr (A.length + (M1.length + (M2.length + 1) + 1) + 1 + 1) c1 8 0 0 ∧ e 2 = .ptr 0 c 8 0 0 ∧ e 7 = .int .i64 i ∧ (∀ j, (hj : j < l.length) → j < i → (pickJ s.Now (k : Int) s.Sessions.list l[j]).isSome = false) ∧
        H = ⟨false, c, 8, [s.enc]⟩ :: ⟨false, c + 1, 8, [[.nsl, .nsl, .nsl, .nsl, .nsl, .nsl, .int .i64 0, .int .i64 0]]⟩ :: (A ++ ⟨false, tq, 5, l.map TJob.encO⟩ :: (M1 ++ ⟨false, t, 9, ws.map TWorker.encO⟩ :: (M2 ++ [⟨false, c1, 8, [[bF.ref 3, bL.ref 4, bS.ref 4, .ref (A.length + 2) tq 5 l.length, .ref (A.length + (M1.length + 1) + 2) t 9 ws.length, bD.ref 11, .int .i64 bN, .int .i64 s.Now]]⟩])))) ⟨rfl, rfl, by simp [upd], rfl, rfl, fun j hj h => by omega, by simp [qWl]⟩ ?_
      intro i e H c' hi ⟨e1, e4, e6, e2, e7, hno, hH⟩ N hN
      subst hH
      by_cases h : i < l.length
      · have gy : l[i]? = some l[i] := List.getElem?_eq_getElem h
        have hp := hj1 i h
        have hyl : ∀ y : TJob, y.encO.length = 5 := fun y => rfl
        generalize l[i] = y at gy hp
        have hlt : i < s.Queue.list.length := by omega
        refine seq_cutS (fun e' H' c' => e' 1 = .int .i64 k ∧ e' 4 = .ptr 1 (c + 1) 8 0 0 ∧ e' 6 = .ptr (A.length + (M1.length + (M2.length + 1) + 1) + 1 + 1) c1 8 0 0 ∧ e' 2 = .ptr 0 c 8 0 0 ∧ e' 7 = .int .i64 i ∧ H' = ⟨false, c, 8, [s.enc]⟩ :: ⟨false, c + 1, 8, [[.nsl, .nsl, .nsl, .nsl, .nsl, .nsl, .int .i64 0, .int .i64 0]]⟩ :: (A ++ ⟨false, tq, 5, l.map TJob.encO⟩ :: (M1 ++ ⟨false, t, 9, ws.map TWorker.encO⟩ :: (M2 ++ ⟨false, c1, 8, [[bF.ref 3, bL.ref 4, bS.ref 4, .ref (A.length + 2) tq 5 l.length, .ref (A.length + (M1.length + 1) + 2) t 9 ws.length, bD.ref 11, .int .i64 bN, .int .i64 s.Now]]⟩ :: [])))) ?_ ?_
        rotate_left
        · intro K hK
          simp [e1, e4, e6, e2, e7, hlt]
          exact hK _ _ _ ⟨by simp [upd, e1], by simp [upd, e4], by simp [upd, e6], by simp [upd, e2], by simp [upd, e7], rfl⟩
        clear e1 e4 e6 e2 e7
        intro e H c' ⟨e1, e4, e6, e2, e7, hH⟩
        subst hH
        refine seq_cutS (fun e' H' c' => e' 1 = .int .i64 k ∧ e' 4 = .ptr 1 (c + 1) 8 0 0 ∧ e' 6 = .ptr (A.length + (M1.length + (M2.length + 1) + 1) + 1 + 1) c1 8 0 0 ∧ e' 2 = .ptr 0 c 8 0 0 ∧ e' 7 = .int .i64 i ∧ pickJ s.Now (k : Int) s.Sessions.list y = none ∧ (⟨false, c, 8, [s.enc]⟩ :: ⟨false, c + 1, 8, [[.nsl, .nsl, .nsl, .nsl, .nsl, .nsl, .int .i64 0, .int .i64 0]]⟩ :: (A ++ ⟨false, tq, 5, l.map TJob.encO⟩ :: (M1 ++ ⟨false, t, 9, ws.map TWorker.encO⟩ :: (M2 ++ ⟨false, c1, 8, [[bF.ref 3, bL.ref 4, bS.ref 4, .ref (A.length + 2) tq 5 l.length, .ref (A.length + (M1.length + 1) + 2) t 9 ws.length, bD.ref 11, .int .i64 bN, .int .i64 s.Now]]⟩ :: [])))).Sublist H') ?_ ?_
        · intro e H c' ⟨e1, e4, e6, e2, e7, hnone, hH⟩
          simp [e7]
          exact hN _ _ _ _ h hH ⟨by simp [upd, e1], by simp [upd, e4], by simp [upd, e6], by simp [upd, e2], by simp [upd]; exact step64 (by have := hs.2.2.2.2.1; unfold mx; omega) h, fun j hj hji => by
            by_cases hji' : j < i
            · exact hno j hj hji'
            · have : j = i := by omega
              subst this
              have e : l[j] = y := (List.getElem?_eq_some_iff.1 gy).2
              rw [e, hnone]; rfl, rfl⟩
        intro K hK
        refine blk_cutS (seq_cutS (fun e' H' c' => e' 1 = .int .i64 k ∧ e' 4 = .ptr 1 (c + 1) 8 0 0 ∧ e' 6 = .ptr (A.length + (M1.length + (M2.length + 1) + 1) + 1 + 1) c1 8 0 0 ∧ e' 2 = .ptr 0 c 8 0 0 ∧ e' 7 = .int .i64 i ∧ ∃ tb, e' 8 = .ptr (A.length + (M1.length + (M2.length + 1 + 1) + 1) + 1 + 1) tb 5 0 0 ∧ H' = ⟨false, c, 8, [s.enc]⟩ :: ⟨false, c + 1, 8, [[.nsl, .nsl, .nsl, .nsl, .nsl, .nsl, .int .i64 0, .int .i64 0]]⟩ :: (A ++ ⟨false, tq, 5, l.map TJob.encO⟩ :: (M1 ++ ⟨false, t, 9, ws.map TWorker.encO⟩ :: (M2 ++ ⟨false, c1, 8, [[bF.ref 3, bL.ref 4, bS.ref 4, .ref (A.length + 2) tq 5 l.length, .ref (A.length + (M1.length + 1) + 2) t 9 ws.length, bD.ref 11, .int .i64 bN, .int .i64 s.Now]]⟩ :: [⟨false, tb, 5, [y.encO]⟩])))) ?_ ?_)
        rotate_left
        · intro K' hK'
          simp [e1, e4, e6, e2, e7, putA, h]
          refine ⟨_, gy, ?_⟩
          simp [hyl, putA]
          exact hK' _ _ _ ⟨by simp [upd, e1], by simp [upd, e4], by simp [upd, e6], by simp [upd, e2], by simp [upd, e7], _, by simp [upd], rfl⟩
        clear e1 e4 e6 e2 e7
        intro e H c' ⟨e1, e4, e6, e2, e7, tb, e8, hH⟩
        subst hH
        refine seq_cutS (fun e' H' c' => e' 1 = .int .i64 k ∧ e' 4 = .ptr 1 (c + 1) 8 0 0 ∧ e' 6 = .ptr (A.length + (M1.length + (M2.length + 1) + 1) + 1 + 1) c1 8 0 0 ∧ e' 2 = .ptr 0 c 8 0 0 ∧ e' 7 = .int .i64 i ∧ e' 8 = .ptr (A.length + (M1.length + (M2.length + 1 + 1) + 1) + 1 + 1) tb 5 0 0 ∧ e' 9 = .str [] ∧ H' = ⟨false, c, 8, [s.enc]⟩ :: ⟨false, c + 1, 8, [[.nsl, .nsl, .nsl, .nsl, .nsl, .nsl, .int .i64 0, .int .i64 0]]⟩ :: (A ++ ⟨false, tq, 5, l.map TJob.encO⟩ :: (M1 ++ ⟨false, t, 9, ws.map TWorker.encO⟩ :: (M2 ++ ⟨false, c1, 8, [[bF.ref 3, bL.ref 4, bS.ref 4, .ref (A.length + 2) tq 5 l.length, .ref (A.length + (M1.length + 1) + 2) t 9 ws.length, bD.ref 11, .int .i64 bN, .int .i64 s.Now]]⟩ :: [⟨false, tb, 5, [y.encO]⟩])))) ?_ ?_
        rotate_left
        · intro K' hK'
          simp
          exact hK' _ _ _ ⟨by simp [upd, e1], by simp [upd, e4], by simp [upd, e6], by simp [upd, e2], by simp [upd, e7], by simp [upd, e8], by simp [upd], rfl⟩
        clear e1 e4 e6 e2 e7 e8
        intro e H c' ⟨e1, e4, e6, e2, e7, e8, e9, hH⟩
        subst hH
        refine seq_cutS (fun e' H' c' => e' 1 = .int .i64 k ∧ e' 4 = .ptr 1 (c + 1) 8 0 0 ∧ e' 6 = .ptr (A.length + (M1.length + (M2.length + 1) + 1) + 1 + 1) c1 8 0 0 ∧ e' 2 = .ptr 0 c 8 0 0 ∧ e' 7 = .int .i64 i ∧ e' 8 = .ptr (A.length + (M1.length + (M2.length + 1 + 1) + 1) + 1 + 1) tb 5 0 0 ∧ ∃ (bS' : SL TSession) (yj : TJob) (d : List UInt8) (X : List AObj), e' 9 = .str d ∧ pickJ s.Now (k : Int) s.Sessions.list y = some (yj, d, bS'.list) ∧ (bS' = bS ∨ X = bS'.wood 4 TSession.enc noInn) ∧ H' = ⟨false, c, 8, [s.enc]⟩ :: ⟨false, c + 1, 8, [[.nsl, .nsl, .nsl, .nsl, .nsl, .nsl, .int .i64 0, .int .i64 0]]⟩ :: (A ++ ⟨false, tq, 5, l.map TJob.encO⟩ :: (M1 ++ ⟨false, t, 9, ws.map TWorker.encO⟩ :: (M2 ++ ⟨false, c1, 8, [[bF.ref 3, bL.ref 4, bS'.ref 4, .ref (A.length + 2) tq 5 l.length, .ref (A.length + (M1.length + 1) + 2) t 9 ws.length, bD.ref 11, .int .i64 bN, .int .i64 s.Now]]⟩ :: ⟨false, tb, 5, [yj.encO]⟩ :: X)))) ?_ ?_
        rotate_left
        · intro K' hK'
          by_cases hse : y.Session = []
          · have hy4 : ∀ K : AV → Prop, getW y.encO 4 K = K (.str y.Session) := fun K => by simp [TJob.encO]
            have hpk : pickJ s.Now (k : Int) s.Sessions.list y = some (y, [], bS.list) := by unfold pickJ; rw [if_pos hse, qS]
            simp [e1, e4, e6, e2, e7, e8, putA, h, hy4, hse]
            exact hK' _ _ _ ⟨by simp [upd, e1], by simp [upd, e4], by simp [upd, e6], by simp [upd, e2], by simp [upd, e7], by simp [upd, e8], bS, y, [], [], by simp [upd, e9], hpk, .inl rfl, rfl⟩
          · have hy4 : ∀ K : AV → Prop, getW y.encO 4 K = K (.str y.Session) := fun K => by simp [TJob.encO]
            simp [e1, e4, e6, e2, e7, e8, putA, h, hy4, hse, hw2]
            refine call_new (spec_openO (s := s.Sessions) (id := y.Session) (who := (k : Int) + 1) (now := s.Now) ?_ ?_ ?_ _) (Views.refl _ _) fun r O c3 hc3 ⟨x, ls, hr, hO, hq⟩ _ _ => ?_
            · exact hso
            · have gy2 : (s.Queue.list[i]?).map TJob.con = some y.con := by
                have := congrArg (fun m : List TJob => m[i]?) qQ
                simp only [List.getElem?_map, gy, Option.map_some] at this
                exact this.symm
              cases gz : s.Queue.list[i]? with
              | none => rw [gz] at gy2; cases gy2
              | some z =>
                rw [gz] at gy2
                simp only [Option.map_some, Option.some.injEq] at gy2
                have e : z.Session = y.Session := by have := congrArg (fun t : TJob => t.Session) gy2; exact this
                rw [← e]; exact hsj z (List.mem_of_getElem? gz)
            · exact hs.2.2.2.1
            subst hr; subst hO
            obtain ⟨hxl, hls⟩ := hq
            subst hls
            refine ⟨_, .refl _, free_tup (by simp [free_ref, free_str, free_int]) _, fun o ho => flat_free TSession.flat _ _ o ho _, ?_⟩
            have hcd := openS_code y.Session ((k : Int) + 1) s.Now s.Sessions.list
            have hpj : pickJ s.Now (k : Int) s.Sessions.list y = if (openS y.Session ((k : Int) + 1) s.Now s.Sessions.list).2.2 = 0 then some (y, (openS y.Session ((k : Int) + 1) s.Now s.Sessions.list).2.1, (openS y.Session ((k : Int) + 1) s.Now s.Sessions.list).1) else if (openS y.Session ((k : Int) + 1) s.Now s.Sessions.list).2.2 = 3 then some (⟨y.Id, y.Request, []⟩, [], s.Sessions.list) else none := by unfold pickJ; rw [if_neg hse]
            have hc4 := openS_cd y.Session ((k : Int) + 1) s.Now s.Sessions.list
            generalize openS y.Session ((k : Int) + 1) s.Now s.Sessions.list = ob at hcd hpj hxl hc4
            by_cases h0 : ob.2.2 = 0
            · rw [if_pos h0] at hpj
              simp [e1, e4, e6, e2, e7, e8, e9, putA, h0]
              exact hK' _ _ _ ⟨by simp [upd, e1], by simp [upd, e4], by simp [upd, e6], by simp [upd, e2], by simp [upd, e7], by simp [upd, e8], x, y, ob.2.1, x.wood 4 TSession.enc noInn, by simp [upd], by rw [hpj, hxl], .inr rfl, rfl⟩
            · rw [if_neg h0] at hpj
              by_cases h3 : ob.2.2 = 3
              · rw [if_pos h3] at hpj
                simp [e1, e4, e6, e2, e7, e8, e9, putA, h0, h3]
                exact hK' _ _ _ ⟨by simp [upd, e1], by simp [upd, e4], by simp [upd, e6], by simp [upd, e2], by simp [upd, e7], by simp [upd, e8], x, ⟨y.Id, y.Request, []⟩, ob.2.1, x.wood 4 TSession.enc noInn, by simp [upd, e9], by rw [hpj, hxl, (hcd.resolve_left h0).1, (hcd.resolve_left h0).2], .inr rfl, rfl⟩
              · rw [if_neg h3] at hpj
                have h12 : ob.2.2 = 2 ∨ ob.2.2 = 1 := by omega
                simp [e1, e4, e6, e2, e7, e8, e9, putA, h0, h3]
                rcases h12 with h12 | h12 <;> simp [e1, e4, e6, e2, e7, e8, e9, putA, h12]
                all_goals exact hK _ _ _ ⟨by simp [upd, e1], by simp [upd, e4], by simp [upd, e6], by simp [upd, e2], by simp [upd, e7], hpj, List.Sublist.cons_cons _ (List.Sublist.cons_cons _ ((List.Sublist.refl A).append (List.Sublist.cons_cons _ ((List.Sublist.refl M1).append (List.Sublist.cons_cons _ ((List.Sublist.refl M2).append (List.Sublist.cons_cons _ (List.nil_sublist _))))))))⟩
        clear e1 e4 e6 e2 e7 e8 e9 hK hN
        intro e H c' ⟨e1, e4, e6, e2, e7, e8, bS', yj, d, X, e9, hpk, hX, hH⟩
        subst hH
        have hlm : l.length ≤ 1048576 := by rw [qQl]; exact hs.2.2.2.2.1
        have hw3 : IntKind.i64.wrap ((i : Int) + 1) = ((i + 1 : Nat) : Int) := by rw [wrap64 (by omega) (by omega)]; rfl
        simp [e1, e4, e6, e2, e7, e8, e9, putA, hw3, -Int.natCast_add]
        have hk2 : k < ws.length := by omega
        have gw : ws[k]? = some ws[k] := List.getElem?_eq_getElem hk2
        have hwl : ∀ x : TWorker, x.encO.length = 9 := fun x => rfl
        refine ⟨by omega, by omega, by omega, ⟨by simp; omega, ?_⟩⟩
        refine ⟨by omega, by unfold mx; omega, hk2, ?_⟩
        simp [e1, e4, e6, e2, e7, e8, e9, putA, hk2, getW_of gw, hwl, hyl]
        refine ⟨by have := hs.1; omega, by have := hs.1; unfold mx; omega, ?_⟩
        obtain ⟨bz, hbz⟩ : ∃ bz : TWorker, bz = ⟨1, yj, d, .mk (c' + 1 + 1) s.Files.list, (ws[k]'hk2).Served⟩ := ⟨_, rfl⟩
        have hyr : yj.Request = y.Request := pick_req hpk
        have hql : (l.take i ++ l.drop (i + 1)).length = l.length - 1 := by simp; omega
        obtain ⟨G0, hG0⟩ : ∃ G0 : List AObj, ∀ p, X.countP p + (bS.wood 4 TSession.enc noInn).countP p = (bS'.wood 4 TSession.enc noInn).countP p + G0.countP p := by
          rcases hX with hX | hX
          · subst hX; exact ⟨X, fun p => by omega⟩
          · subst hX; exact ⟨bS.wood 4 TSession.enc noInn, fun p => rfl⟩
        obtain ⟨z, gz, hzy⟩ : ∃ z, s.Queue.list[i]? = some z ∧ z.con = y.con := by
          have gy2 : (s.Queue.list[i]?).map TJob.con = some y.con := by
            have := congrArg (fun m : List TJob => m[i]?) qQ
            simp only [List.getElem?_map, gy, Option.map_some] at this
            exact this.symm
          cases gz : s.Queue.list[i]? with
          | none => rw [gz] at gy2; cases gy2
          | some z => rw [gz] at gy2; exact ⟨z, rfl, by simpa using gy2⟩
        obtain ⟨zj, hpz, hzj⟩ : ∃ zj, pickJ s.Now (k : Int) s.Sessions.list z = some (zj, d, bS'.list) ∧ zj.con = yj.con := by
          have hm := pickJ_map s.Now (k : Int) s.Sessions.list hzy
          rw [hpk] at hm
          cases hq : pickJ s.Now (k : Int) s.Sessions.list z with
          | none => rw [hq] at hm; cases hm
          | some q =>
            rw [hq] at hm
            obtain ⟨q1, q2, q3⟩ := q
            simp only [Option.map_some, Option.some.injEq, Prod.mk.injEq] at hm
            obtain ⟨hm1, rfl, rfl⟩ := hm
            exact ⟨q1, rfl, hm1⟩
        have hI2 : staI s (k : Int) = i := staI_at gz (fun j hj hji => by rw [← hj1 j (by omega)]; exact hno j (by omega) hji) (by rw [hpz]; rfl)
        have hJ2 : staJ s (k : Int) = some (zj, d, bS'.list) := by unfold staJ; rw [hI2, gz]; exact hpz
        have hso2 : staOk s (k : Int) = true := by unfold staOk; rw [hok0, hJ2]; rfl
        have hst2 : start s (k : Int) = { s with Sessions := .mk 0 bS'.list, Queue := .mk 0 (s.Queue.list.take i ++ s.Queue.list.drop (i + 1)), Workers := .mk 0 (s.Workers.list.set k (busyW s.Workers.list[k] zj d s.Files.list)) } := by
          unfold start
          rw [hok0, hJ2, Int.toNat_natCast, hg, hI2]
        have hsk : (l.map TJob.encO).take i ++ ((l.map TJob.encO).drop (i + 1)).take (l.length - (i + 1)) = skipRows (l.map TJob.encO) i := by
          unfold skipRows; rw [List.take_of_length_le (l := (l.map TJob.encO).drop (i + 1)) (by simp)]
        have hln : i + (l.length - (i + 1)) = l.length - 1 := by omega
        rw [hsk]
        try rw [hln]
        refine fin_ren (List.Sublist.refl _) (.cons (.refl _ _) (.cons (.refl _ _) (Rens.app (Rens.refl _ A) (.cons (.refl _ _) (Rens.app (Rens.refl _ M1) (.cons (ren_setW (j := 0) (p := [.int .i64 1, .int .i64 yj.Id, .str yj.Request.Path, yj.Request.Query.ref 2, yj.Request.Cookies.ref 2, .str yj.Session, .str d]) (q := [.int .i64 (ws[k]'hk2).Served])) (Rens.refl _ _))))))) (.refl _) ⟨⟨bF, bL, bS', .mk c' (l.take i ++ l.drop (i + 1)), .mk t (ws.set k bz), bD, bN, s.Now⟩, [bF.ref 3, bL.ref 4, bS'.ref 4, .ref (A.length + 2) c' 5 (l.length - 1), .ref (A.length + (M1.length + 1) + 2) t 9 ws.length, bD.ref 11, .int .i64 bN, .int .i64 s.Now], [_, _], A ++ (⟨false, c', 5, skipRows (l.map TJob.encO) i⟩ :: (M1 ++ (⟨false, t, 9, (ws.map TWorker.encO).set k bz.encO⟩ :: (M2 ++ (⟨false, c1, 8, [[bF.ref 3, bL.ref 4, bS'.ref 4, .ref (A.length + 2) c' 5 (l.length - 1), .ref (A.length + (M1.length + 1) + 2) t 9 ws.length, bD.ref 11, .int .i64 bN, .int .i64 s.Now]]⟩ :: (⟨false, tb, 5, [yj.encO]⟩ :: (X ++ (SL.mk (c' + 1 + 1) s.Files.list).wood 3 TFile.enc noInn))))))), ⟨false, c1, 8, [[bF.ref 3, bL.ref 4, bS'.ref 4, .ref (A.length + 2) c' 5 (l.length - 1), .ref (A.length + (M1.length + 1) + 2) t 9 ws.length, bD.ref 11, .int .i64 bN, .int .i64 s.Now]]⟩ :: ⟨false, tb, 5, [yj.encO]⟩ :: (G0 ++ (ws[k]'hk2).inn), ?_, ?_, by subst hbz; rw [flat_wood]; rfl, perm_cnt fun p => ?_, ?_⟩
        · rw [hso2]
        · refine .cons (.refl _) (.cons (.refl _) (.cons (.refl _) (.cons ?_ (.cons ?_ (.cons (.refl _) (.cons (.refl _) (.cons (.refl _) .nil)))))))
          · show View [] _ (.ref 0 c' 5 (l.take i ++ l.drop (i + 1)).length)
            rw [hql]; exact .name
          · show View [] _ (.ref 0 t 9 (ws.set k bz).length)
            rw [List.length_set]; exact .name
        · have k1 := skip_cnt (inn := TJob.inn) gy p
          have k2 := setW_cnt (inn := TWorker.inn) gw bz p
          have k3 := hG0 p
          have k4 : (bz.inn).countP p = (TJob.inn y).countP p + ((SL.mk (c' + 1 + 1) s.Files.list).wood 3 TFile.enc noInn).countP p := by
            rw [hbz]
            simp only [TWorker.inn, TJob.inn, hyr, List.countP_append]
            omega
          have w1 : (SL.mk c' (l.take i ++ l.drop (i + 1))).wood 5 TJob.encO TJob.inn = ⟨false, c', 5, skipRows (l.map TJob.encO) i⟩ :: (l.take i ++ l.drop (i + 1)).flatMap TJob.inn := by
            unfold skipRows; rw [← List.map_take, ← List.map_drop, ← List.map_append]; rfl
          have w2 : (SL.mk t (ws.set k bz)).wood 9 TWorker.encO TWorker.inn = ⟨false, t, 9, (ws.map TWorker.encO).set k bz.encO⟩ :: (ws.set k bz).flatMap TWorker.inn := by
            rw [← List.map_set]; rfl
          simp only [TServer.inn, w1, w2, hA, hM1, hM2, List.append_eq, List.countP_append, List.countP_cons, List.countP_nil] at k1 k2 k3 k4 ⊢
          omega
        · rw [hst2]
          have cF : bF.con TFile.con = s.Files.con TFile.con := congrArg TServer.Files q0
          have cL : bL.con TLine.con = s.Lines.con TLine.con := congrArg TServer.Lines q0
          have cD : bD.con TAnswer.con = s.Done.con TAnswer.con := congrArg TServer.Done q0
          have cN : bN = s.Next := congrArg TServer.Next q0
          have qF : bF.list.map TFile.con = s.Files.list.map TFile.con := congrArg (fun t : TServer => t.Files.list) q0
          have hsv : (ws[k]'hk2).Served = (s.Workers.list[k]).Served := by
            have := congrArg (fun m : List TWorker => m[k]?) qW
            simp only [List.getElem?_map, gw, hg, Option.map_some, Option.some.injEq] at this
            have := congrArg (fun t : TWorker => t.Served) this
            exact this
          have cB : bz.con = (busyW s.Workers.list[k] zj d s.Files.list).con := by
            rw [hbz]
            simp only [busyW, TWorker.con, SL.con, SL.list_mk, hsv, hzj]
          simp only [TServer.con, SL.con, SL.list_mk, List.map_append, List.map_take, List.map_drop, List.map_set, qQ, qW, cB] at cF cL cD ⊢
          rw [cF, cL, cD, cN]
      · have hie : i = l.length := by omega
        subst hie
        have hno' : staOk s (k : Int) = false := by
          unfold staOk
          rw [staJ_none (fun j hj => by rw [← hj1 j (by omega)]; exact hno j (by omega) (by omega))]
          simp
        simp [e1, e4, e6, e2, e7, putA, ← qQl]
        exact fin_all (⟨⟨bF, bL, bS, .mk tq l, .mk t ws, bD, bN, s.Now⟩, _, [_, _], _, [_], by rw [hno'], .cons (.refl _) (.cons (.refl _) (.cons (.refl _) (.cons .name (.cons .name (.cons (.refl _) (.cons (.refl _) (.cons (.refl _) .nil))))))), rfl, by rw [hI]; simp only [List.append_assoc, List.cons_append]; exact List.Perm.refl _, by rw [start_no hno']; exact q0⟩)
theorem spec_staO {s : TServer} {w : Int} (hs : SmSrv s) (hso : okSessionS s.Sessions) (hsj : ∀ j, j ∈ s.Queue.list → j.Session.length ≤ mx) (hw : -9223372036854775808 ≤ w ∧ w ≤ 9223372036854775807) (c : Nat) : Con Tryz.prog 12 [.agg s.enc, .int .i64 w] [] c fun r O _ => StaQ s w r O := con_staK (spec_staK hs hso hsj hw c)
end A
end Go.Proofs.YtfcimcoanlgldaaGreat

/-
  Copies whose trees bear one tag: printed by a program (wip/tools/genat.py). No condition.
-/


namespace Go.Proofs.YtfcimcoanlgldaaGreat
namespace A
set_option linter.unusedVariables false
set_option linter.unusedSimpArgs false
set_option maxRecDepth 100000

theorem from_sl {α : Type} {enc : α → List AV} {c w : Nat} {l : List α} (h : ∀ x, x ∈ l → ∀ a, a ∈ enc x → From c a) : From c ((SL.mk c l).av w enc) :=
  from_slc (Nat.le_refl _) fun row hr a ha => by
    obtain ⟨x, hx, rfl⟩ := List.mem_map.1 hr
    exact h x hx a ha
def TFile.at (c : Nat) (s : TFile) : TFile := s
theorem TFile.at_con (c : Nat) (s : TFile) : (s.at c).con = s.con := rfl
theorem TFile.at_from (c : Nat) (s : TFile) : ∀ a, a ∈ (s.at c).enc → From c a := fun a ha => by
  simp only [TFile.enc, List.mem_cons, List.not_mem_nil, or_false] at ha
  rcases ha with rfl | rfl | rfl
  · simp
  · simp
  · simp
def TLine.at (c : Nat) (s : TLine) : TLine := { s with Words := .mk c s.Words.list }
theorem TLine.at_con (c : Nat) (s : TLine) : (s.at c).con = s.con := by
  simp [TLine.at, TLine.con, SL.con, SL.pcon, List.map_map, Function.comp_def]
theorem TLine.at_from (c : Nat) (s : TLine) : ∀ a, a ∈ (s.at c).enc → From c a := fun a ha => by
  simp only [TLine.enc, List.mem_cons, List.not_mem_nil, or_false] at ha
  rcases ha with rfl | rfl | rfl | rfl
  · simp
  · simp
  · simp
  · exact from_sl fun y hy a ha => by
      simp [encI, encS, encB] at ha; subst ha; simp
def TSession.at (c : Nat) (s : TSession) : TSession := s
theorem TSession.at_con (c : Nat) (s : TSession) : (s.at c).con = s.con := rfl
theorem TSession.at_from (c : Nat) (s : TSession) : ∀ a, a ∈ (s.at c).enc → From c a := fun a ha => by
  simp only [TSession.enc, List.mem_cons, List.not_mem_nil, or_false] at ha
  rcases ha with rfl | rfl | rfl | rfl
  · simp
  · simp
  · simp
  · simp
def TPair.at (c : Nat) (s : TPair) : TPair := s
theorem TPair.at_con (c : Nat) (s : TPair) : (s.at c).con = s.con := rfl
theorem TPair.at_from (c : Nat) (s : TPair) : ∀ a, a ∈ (s.at c).enc → From c a := fun a ha => by
  simp only [TPair.enc, List.mem_cons, List.not_mem_nil, or_false] at ha
  rcases ha with rfl | rfl
  · simp
  · simp
def TRequest.at (c : Nat) (s : TRequest) : TRequest := { s with Query := .mk c (s.Query.list.map (TPair.at c)), Cookies := .mk c (s.Cookies.list.map (TPair.at c)) }
theorem TRequest.at_con (c : Nat) (s : TRequest) : (s.at c).con = s.con := by
  simp [TRequest.at, TRequest.con, SL.con, SL.pcon, List.map_map, Function.comp_def, TPair.at_con]
theorem TRequest.at_from (c : Nat) (s : TRequest) : ∀ a, a ∈ (s.at c).enc → From c a := fun a ha => by
  simp only [TRequest.enc, List.mem_cons, List.not_mem_nil, or_false] at ha
  rcases ha with rfl | rfl | rfl
  · simp
  · exact from_sl fun y hy a ha => by
      obtain ⟨z, _, rfl⟩ := List.mem_map.1 hy
      exact TPair.at_from c z a ha
  · exact from_sl fun y hy a ha => by
      obtain ⟨z, _, rfl⟩ := List.mem_map.1 hy
      exact TPair.at_from c z a ha
def TJob.at (c : Nat) (s : TJob) : TJob := { s with Request := s.Request.at c }
theorem TJob.at_con (c : Nat) (s : TJob) : (s.at c).con = s.con := by
  simp [TJob.at, TJob.con, SL.con, SL.pcon, List.map_map, Function.comp_def, TRequest.at_con]
theorem TJob.at_from (c : Nat) (s : TJob) : ∀ a, a ∈ (s.at c).enc → From c a := fun a ha => by
  simp only [TJob.enc, List.mem_cons, List.not_mem_nil, or_false] at ha
  rcases ha with rfl | rfl | rfl | rfl | rfl
  · simp
  · exact TRequest.at_from c s.Request _ (List.mem_of_getElem? (i := 0) rfl)
  · exact TRequest.at_from c s.Request _ (List.mem_of_getElem? (i := 1) rfl)
  · exact TRequest.at_from c s.Request _ (List.mem_of_getElem? (i := 2) rfl)
  · simp
def TWorker.at (c : Nat) (s : TWorker) : TWorker := { s with Job := s.Job.at c, Files := .mk c (s.Files.list.map (TFile.at c)) }
theorem TWorker.at_con (c : Nat) (s : TWorker) : (s.at c).con = s.con := by
  simp [TWorker.at, TWorker.con, SL.con, SL.pcon, List.map_map, Function.comp_def, TFile.at_con, TJob.at_con]
theorem TWorker.at_from (c : Nat) (s : TWorker) : ∀ a, a ∈ (s.at c).enc → From c a := fun a ha => by
  simp only [TWorker.enc, List.mem_cons, List.not_mem_nil, or_false] at ha
  rcases ha with rfl | rfl | rfl | rfl | rfl | rfl | rfl | rfl | rfl
  · simp
  · exact TJob.at_from c s.Job _ (List.mem_of_getElem? (i := 0) rfl)
  · exact TJob.at_from c s.Job _ (List.mem_of_getElem? (i := 1) rfl)
  · exact TJob.at_from c s.Job _ (List.mem_of_getElem? (i := 2) rfl)
  · exact TJob.at_from c s.Job _ (List.mem_of_getElem? (i := 3) rfl)
  · exact TJob.at_from c s.Job _ (List.mem_of_getElem? (i := 4) rfl)
  · simp
  · exact from_sl fun y hy a ha => by
      obtain ⟨z, _, rfl⟩ := List.mem_map.1 hy
      exact TFile.at_from c z a ha
  · simp
def THeader.at (c : Nat) (s : THeader) : THeader := s
theorem THeader.at_con (c : Nat) (s : THeader) : (s.at c).con = s.con := rfl
theorem THeader.at_from (c : Nat) (s : THeader) : ∀ a, a ∈ (s.at c).enc → From c a := fun a ha => by
  simp only [THeader.enc, List.mem_cons, List.not_mem_nil, or_false] at ha
  rcases ha with rfl | rfl
  · simp
  · simp
def TResponse.at (c : Nat) (s : TResponse) : TResponse := { s with Headers := .mk c (s.Headers.list.map (THeader.at c)) }
theorem TResponse.at_con (c : Nat) (s : TResponse) : (s.at c).con = s.con := by
  simp [TResponse.at, TResponse.con, SL.con, SL.pcon, List.map_map, Function.comp_def, THeader.at_con]
theorem TResponse.at_from (c : Nat) (s : TResponse) : ∀ a, a ∈ (s.at c).enc → From c a := fun a ha => by
  simp only [TResponse.enc, List.mem_cons, List.not_mem_nil, or_false] at ha
  rcases ha with rfl | rfl | rfl
  · simp
  · exact from_sl fun y hy a ha => by
      obtain ⟨z, _, rfl⟩ := List.mem_map.1 hy
      exact THeader.at_from c z a ha
  · simp
def TAnswer.at (c : Nat) (s : TAnswer) : TAnswer := { s with Files := .mk c (s.Files.list.map (TFile.at c)), Request := s.Request.at c, Response := s.Response.at c }
theorem TAnswer.at_con (c : Nat) (s : TAnswer) : (s.at c).con = s.con := by
  simp [TAnswer.at, TAnswer.con, SL.con, SL.pcon, List.map_map, Function.comp_def, TFile.at_con, TRequest.at_con, TResponse.at_con]
theorem TAnswer.at_from (c : Nat) (s : TAnswer) : ∀ a, a ∈ (s.at c).enc → From c a := fun a ha => by
  simp only [TAnswer.enc, List.mem_cons, List.not_mem_nil, or_false] at ha
  rcases ha with rfl | rfl | rfl | rfl | rfl | rfl | rfl | rfl | rfl | rfl | rfl
  · simp
  · simp
  · exact from_sl fun y hy a ha => by
      obtain ⟨z, _, rfl⟩ := List.mem_map.1 hy
      exact TFile.at_from c z a ha
  · exact TRequest.at_from c s.Request _ (List.mem_of_getElem? (i := 0) rfl)
  · exact TRequest.at_from c s.Request _ (List.mem_of_getElem? (i := 1) rfl)
  · exact TRequest.at_from c s.Request _ (List.mem_of_getElem? (i := 2) rfl)
  · simp
  · exact TResponse.at_from c s.Response _ (List.mem_of_getElem? (i := 0) rfl)
  · exact TResponse.at_from c s.Response _ (List.mem_of_getElem? (i := 1) rfl)
  · exact TResponse.at_from c s.Response _ (List.mem_of_getElem? (i := 2) rfl)
  · simp
def TServer.at (c : Nat) (s : TServer) : TServer := { s with Files := .mk c (s.Files.list.map (TFile.at c)), Lines := .mk c (s.Lines.list.map (TLine.at c)), Sessions := .mk c (s.Sessions.list.map (TSession.at c)), Queue := .mk c (s.Queue.list.map (TJob.at c)), Workers := .mk c (s.Workers.list.map (TWorker.at c)), Done := .mk c (s.Done.list.map (TAnswer.at c)) }
theorem TServer.at_con (c : Nat) (s : TServer) : (s.at c).con = s.con := by
  simp [TServer.at, TServer.con, SL.con, SL.pcon, List.map_map, Function.comp_def, TAnswer.at_con, TFile.at_con, TJob.at_con, TLine.at_con, TSession.at_con, TWorker.at_con]
theorem TServer.at_from (c : Nat) (s : TServer) : ∀ a, a ∈ (s.at c).enc → From c a := fun a ha => by
  simp only [TServer.enc, List.mem_cons, List.not_mem_nil, or_false] at ha
  rcases ha with rfl | rfl | rfl | rfl | rfl | rfl | rfl | rfl
  · exact from_sl fun y hy a ha => by
      obtain ⟨z, _, rfl⟩ := List.mem_map.1 hy
      exact TFile.at_from c z a ha
  · exact from_sl fun y hy a ha => by
      obtain ⟨z, _, rfl⟩ := List.mem_map.1 hy
      exact TLine.at_from c z a ha
  · exact from_sl fun y hy a ha => by
      obtain ⟨z, _, rfl⟩ := List.mem_map.1 hy
      exact TSession.at_from c z a ha
  · exact from_sl fun y hy a ha => by
      obtain ⟨z, _, rfl⟩ := List.mem_map.1 hy
      exact TJob.at_from c z a ha
  · exact from_sl fun y hy a ha => by
      obtain ⟨z, _, rfl⟩ := List.mem_map.1 hy
      exact TWorker.at_from c z a ha
  · exact from_sl fun y hy a ha => by
      obtain ⟨z, _, rfl⟩ := List.mem_map.1 hy
      exact TAnswer.at_from c z a ha
  · simp
  · simp
end A
end Go.Proofs.YtfcimcoanlgldaaGreat

/-
  The law of StartWork answers true. No condition.
-/



namespace Go.Proofs.YtfcimcoanlgldaaGreat
namespace A
set_option linter.unusedVariables false
set_option linter.unusedSimpArgs false
set_option maxRecDepth 100000

@[simp] theorem getW_midZ {α : Type} (A T M : List α) (X W B : α) (K : α → Prop) : getW (A ++ X :: (T ++ W :: B :: M)) (A.length + (T.length + 1 + 1)) K = K B :=
  getW_of (by rw [List.getElem?_append_right (by omega), Nat.add_sub_cancel_left, List.getElem?_cons_succ, List.getElem?_append_right (by omega)]; simp) K
theorem sta_tr {f : Nat} {args : List AV} {s : TServer} {w : Int} (h : ∀ c, Con Tryz.prog f args [] c fun r O _ => StaQ s w r O) : Tr Tryz.prog f args fun _ r => ∃ b : TServer, r = .tup [.agg b.enc, .bool (staOk s w)] ∧ b.con = (start s w).con :=
  tr_of h fun c r O c' _ ⟨b, h1, h2, h3⟩ ht => ⟨.tup [.agg b.enc, .bool (staOk s w)], by rw [h1]; exact view_tup (.cons (view_AServer (by rw [h2]; exact fun _ h => h)) (.cons (.refl _) .nil)), ⟨b, rfl, h3⟩, from_tup fun a ha => by
    rw [h2] at ht
    simp at ha
    rcases ha with rfl | rfl
    · exact server_from ht
    · exact from_bool _ _⟩

def BdS (s : TServer) : Prop := szFileS s.Files + szLineS s.Lines + szJobS s.Queue + szAnswerS s.Done ≤ 1048576 ∧ s.Sessions.list.length ≤ 1048577 ∧ szWorkerS s.Workers ≤ 1048576
theorem bdS_con (s : TServer) : BdS s.con ↔ BdS s := by
  simp [BdS, TServer.con, szFileS, szLineS, szSessionS, szJobS, szWorkerS, szAnswerS, szL_map TFile.sz_con, szL_map TLine.sz_con, szL_map TSession.sz_con, szL_map TJob.sz_con, szL_map TWorker.sz_con, szL_map TAnswer.sz_con]
theorem bdS_bounds {s : TServer} (h : BdS s) : (szL cFile s.Files.list ≤ 8388608 ∧ szL cLine s.Lines.list ≤ 8388608 ∧ szL cSession s.Sessions.list ≤ 8388608 ∧ szL cJob s.Queue.list ≤ 8388608 ∧ szL cWorker s.Workers.list ≤ 8388608 ∧ szL cAnswer s.Done.list ≤ 8388608) ∧ ∀ x, x ∈ s.Lines.list → x.Words.list.length ≤ 1048576 := by
  simp only [BdS, szFileS, szLineS, szSessionS, szJobS, szWorkerS, szAnswerS] at h
  have hl := szLine_bounds (l := s.Lines.list) (by omega)
  have hj := szL_lin cJob TJob.sz 3 2 (fun x => by simp only [cJob, TJob.sz, TRequest.sz, szPairS, szL_ePair]; omega) s.Queue.list
  have hw := szL_lin cWorker TWorker.sz 6 3 (fun x => by simp only [cWorker, TWorker.sz, TJob.sz, TRequest.sz, szPairS, szFileS, szL_ePair, szL_eFile]; omega) s.Workers.list
  have ha := szL_lin cAnswer TAnswer.sz 7 3 (fun x => by simp only [cAnswer, TAnswer.sz, TRequest.sz, TResponse.sz, szPairS, szFileS, szHeaderS, szL_ePair, szL_eFile, szL_eHeader]; omega) s.Done.list
  refine ⟨⟨?_, hl.1, ?_, ?_, ?_, ?_⟩, hl.2.1⟩
  · rw [szL_eFile]; omega
  · rw [szL_eSession]; omega
  · omega
  · omega
  · omega
theorem pick_len {now w : Int} {ss : List TSession} {j : TJob} {p : TJob × List UInt8 × List TSession} (h : pickJ now w ss j = some p) : p.2.2.length ≤ ss.length + 1 := by
  unfold pickJ at h
  split at h
  · cases h; simp
  · split at h
    · cases h; exact len_open ss
    · split at h
      · cases h; simp
      · cases h
theorem start_bd {s : TServer} {w : Int} (h : s.sz ≤ 1048576) : BdS (start s w) := by
  simp only [TServer.sz] at h
  unfold start
  split
  · rename_i j d ss x h1 h2 h3
    obtain ⟨j0, hj0, hp⟩ := Option.bind_eq_some_iff.1 h2
    obtain ⟨b1, b2, b3⟩ := pick_sz hp
    have b4 := pick_len hp
    have hjs := szL_mem (sz := TJob.sz) (List.mem_of_getElem? hj0)
    simp only [BdS, szFileS, szLineS, szSessionS, szJobS, szWorkerS, szAnswerS, SL.list_mk, List.length_set] at h ⊢
    have c1 := szL_sub TJob.sz (skip_sub s.Queue.list (staI s w))
    have c2 := (skip_sub s.Queue.list (staI s w)).length_le
    have c3 := szL_setW TWorker.sz s.Workers.list w.toNat (busyW x j d s.Files.list)
    have c4 : (busyW x j d s.Files.list).sz = j.sz + d.length + (s.Files.list.length + szL TFile.sz s.Files.list) := rfl
    simp only at b1 b2 b3 b4
    omega
  · simp only [BdS, szFileS, szLineS, szSessionS, szJobS, szWorkerS, szAnswerS] at h ⊢
    omega
def IsSrv (a : TServer) (v : AV) : Prop := ∃ b : TServer, v = .agg b.enc ∧ b.con = a.con
theorem IsSrv_some (a : TServer) (c : Nat) : ∃ r, IsSrv a r ∧ From c r := ⟨_, ⟨a.at c, rfl, a.at_con c⟩, from_agg (TServer.at_from c a)⟩

theorem law_start {a : TServer} (ha : a.ok) {w : Int} (hw : IOk .i64 w) (c : Nat) : Con Tryz.prog 4 [.agg a.enc, .int .i64 w] [] c fun r H' _ => r = .bool true ∧ H' = [] := by
  have hwb : -9223372036854775808 ≤ w ∧ w ≤ 9223372036854775807 := by
    have e1 : IntKind.i64.min = -9223372036854775808 := by decide
    have e2 : IntKind.i64.max = 9223372036854775807 := by decide
    exact ⟨by have := hw.1; omega, by have := hw.2; omega⟩
  refine con_of c4 (by simp [F4]) ?_
  unfold F4
  simp
  refine call_fn0 (TServer.sz_fn ha ⟨by omega, by omega⟩) .int fun _ _ => ?_
  simp
  refine ⟨fun _ => fin_plain ⟨rfl, rfl⟩, fun h1 => ?_⟩
  obtain ⟨h1', h1''⟩ := szOf_ge h1
  have hz : ∀ x : TServer, x.con = a.con → x.sz ≤ 1048576 := fun x hx => by rw [← x.sz_con, hx, a.sz_con]; omega
  have hzr : ∀ x : TServer, x.con = (start a w).con → x.sz ≤ 16777216 := fun x hx => by rw [← x.sz_con, hx, TServer.sz_con]; exact start_sz (hz a rfl)
  have hR := fun (b : TServer) (h : b.con = a.con) => And.intro (staOk_con h w) (start_con h w)
  have hso : ∀ x : TServer, x.con = a.con → okSessionS x.Sessions := fun x hx => by
    have e : x.Sessions.list = a.Sessions.list := sessCon (congrArg (fun t : TServer => t.Sessions.list) hx)
    have h : okSessionS a.Sessions := ha.2.2.1
    unfold okSessionS at h ⊢
    rw [e]; exact h
  have hsj : ∀ x : TServer, x.con = a.con → ∀ j, j ∈ x.Queue.list → j.Session.length ≤ mx := fun x hx j hj => by
    have h1 := hz x hx
    have h2 := szL_mem (sz := TJob.sz) hj
    have h3 : j.sz = j.Request.sz + j.Session.length := rfl
    simp only [TServer.sz, szJobS] at h1
    unfold mx
    omega
  refine call_tree0 (TServer.to_fn (hz a rfl)) fun r1 _ _ ⟨a1, e1, q1⟩ _ => ?_
  subst e1
  simp
  refine call_tree0 (sta_tr (spec_staO (smSrv_of (hz _ q1)) (hso _ q1) (hsj _ q1) hwb)) fun r2 c2 _ ⟨v, e2, q2⟩ _ => ?_
  subst e2
  rw [(hR _ q1).2] at q2
  simp [(hR _ q1).1, putA]
  refine call_new (toServerO (hz a rfl) _) (Views.refl _ _) fun r3 O c3 hc3 ⟨b, e3, hO, q3⟩ _ _ => ?_
  subst e3; subst hO
  refine ⟨_, .refl _, free_agg (TServer.freeO b) _, fun o ho => TServer.freeI b o ho _, ?_⟩
  simp [putA]
  refine call_new (impl_staO (s := b) (smSrv_of (hz _ q3)) (hso _ q3) (hsj _ q3) hwb _) (.cons (view_AServer (fun o ho => by simp [ho])) (.cons (.refl _) .nil)) fun r4 O c4 hc4 ⟨g, e4, hO, q4⟩ _ _ => ?_
  subst e4; subst hO
  refine ⟨_, .refl _, free_tup (by simp; exact ⟨free_agg (TServer.freeO g), free_bool _⟩) _, fun o ho => TServer.freeI g o ho _, ?_⟩
  rw [(hR _ q3).2] at q4
  simp [(hR _ q3).1, putA]
  have hgz := hzr _ q4
  have hgb : BdS g := (bdS_con g).1 (by rw [q4]; exact (bdS_con _).2 (start_bd (hz a rfl)))
  have qgv : g.con = v.con := q4.trans q2.symm
  refine call_fn (TServer.eq_fn (by omega) qgv) (.cons (view_AServer (fun o ho => by simp [ho])) (.cons (.refl _) .nil)) .bool fun _ _ => ?_
  simp
  refine ⟨fun d v => if d = 47 then IsSrv a v else v = .bool true, ?_⟩
  simp
  refine callD_tree0 (TServer.to_fn (hz a rfl)) (IsSrv_some a _) fun r3 ⟨a3, e3, q3'⟩ _ => ?_
  subst e3
  simp
  refine callD_fnV (TServer.eq_fn (by have := hz _ q3; omega) (q3.trans q3'.symm)) (.cons (view_AServer (fun o ho => by simp [ho])) (.cons (.refl _) .nil)) (fun v => Iff.rfl) (by simp) ?_
  simp
  intro c5 _
  obtain ⟨sb, sw⟩ := server_bounds (hz _ q3)
  obtain ⟨gb, gw⟩ := bdS_bounds hgb
  have hlb := mkServer_len 1 b
  have hlg := mkServer_len 1 g
  refine markServer_at sb sw (A := [_, _]) (C := _ :: (g.inn ++ [_])) rfl rfl fun c6 _ => ?_
  generalize (mkServer 1 b).inn = B' at hlb ⊢
  have hk1 : ¬ ((1 : Int) + (cServer b : Int) < 0) := by omega
  have hk2 : ¬ ((1 : Int) + (cServer g : Int) < 0) := by omega
  simp [hk1, ← hlb]
  refine call_fn (TServer.eq_fn (by omega) qgv) (.cons (view_AServer (fun o ho => by simp [ho])) (.cons (.refl _) .nil)) .bool fun _ _ => ?_
  simp [hk1, ← hlb]
  refine markServer_at gb gw (A := ⟨false, c, 8, [a.enc]⟩ :: ⟨false, c2, 8, [v.enc]⟩ :: (B' ++ [⟨false, c3, 8, [b.encO]⟩])) (C := [⟨false, c4, 8, [g.encO]⟩]) (by simp) rfl fun c7 _ => ?_
  simp [hk1, hk2, ← hlb, ← hlg]
  refine call_fn (heldServer_fn (s := g) gb gw (k := 1) ⟨by omega, by omega⟩) (.cons (by rw [← mkServer_encO 1 g]; exact view_AServer (fun o ho => by simp [ho])) (.cons (.refl _) .nil)) .int fun _ _ => ?_
  simp [hk1, hk2, ← hlb, ← hlg]
  refine call_tree0 (TServer.to_fn (hz a rfl)) fun r6 _ _ ⟨a6, e6, q6⟩ _ => ?_
  subst e6
  simp
  refine call_tree0 (sta_tr (impl_staO (smSrv_of (hz _ q6)) (hso _ q6) (hsj _ q6) hwb)) fun r7 c8 _ ⟨y, e7, q7⟩ _ => ?_
  subst e7
  rw [(hR _ q6).2] at q7
  simp [(hR _ q6).1, putA, hk1, hk2, ← hlb, ← hlg]
  have qyv : y.con = v.con := q7.trans q2.symm
  have hyz := hzr _ q7
  refine call_fn0 (TServer.eq_fn (by omega) qyv) .bool fun _ _ => ?_
  simp [hk1, hk2, ← hlb, ← hlg]
  refine call_fn (heldServer_fn (s := g) gb gw (k := 1) ⟨by omega, by omega⟩) (.cons (by rw [← mkServer_encO 1 g]; exact view_AServer (fun o ho => by simp [ho])) (.cons (.refl _) .nil)) .int fun _ _ => ?_
  simp [hk1, hk2]
  exact fin_plain ⟨rfl, rfl⟩
end A
end Go.Proofs.YtfcimcoanlgldaaGreat

/-
  Facts of the whole program that every row of the seat asks, each worked out once. No condition.
-/


namespace Go.Proofs.YtfcimcoanlgldaaGreat.Closed
open Go.ChangeShapes Go.WideShapes Go.RowKit
theorem heard : Tryz.pinned.checked.prog.stopsHeard = true := by kernel_rfl
theorem enter : Tryz.pinned.checked.prog.mayEnter = true := by kernel_rfl
theorem make : Tryz.pinned.checked.prog.make = some Rows.fnExactReviveWorkRow.make := by kernel_rfl
theorem lifts : Tryz.pinned.checked.prog.liftsFinal = Rows.fnExactReviveWorkRow.lifted := by kernel_rfl
end Go.Proofs.YtfcimcoanlgldaaGreat.Closed

/-
  FnExactStartWork: the program's and the reference's give the same, for all arguments. No condition.
-/



namespace Go.Proofs.YtfcimcoanlgldaaGreat.fnExactStartWork
open Go.ChangeShapes Go.WideShapes Go.ChangeAt Go.RowKit
open Go.Proofs.YtfcimcoanlgldaaGreat.A
set_option linter.unusedVariables false

theorem own : ownKnob Tryz.prog.godebug = none := by kernel_rfl

def types : List TypeId := [29, 22, 86, 9, 3, 23, 90, 88, 24, 93, 25, 99, 97, 95, 170, 26, 102, 27, 108, 106, 104, 172, 4]

set_option maxRecDepth 100000 in
theorem lifted (os : Os) (started : os.Started) (H : Type) (enc : TypeId × Value → H) :
    ReturnsInHanded {} Tryz.checked os 4 .any (Rows.fnExactStartWorkSpec.pre6 enc Tryz.prog Tryz.f4 Rows.fnExactStartWorkRow.domain false) (Rows.fnExactStartWorkSpec.post enc Tryz.prog Tryz.f4 false true false false) := by
  refine returnsInHanded_of_change (C := Tryz.checked) own started (by kernel_rfl) Tryz.func4
    (ChangeSpec.witness6 (enc := enc) (C := Tryz.checked) false ⟨#[], #[.agg #[.slice none 0 0, .slice none 0 0, .slice none 0 0, .slice none 0 0, .slice none 0 0, .slice none 0 0, .int .i64 0, .int .i64 0], .int .i64 0], []⟩ 8 (by kernel_rfl) (by kernel_rfl) (by kernel_rfl) (by kernel_rfl)) ?_
  intro W base args ds gs before hval0 hW hcnd _
  have hval : ∀ (j : Nat) t v, Tryz.f4.params[j]? = some t → args[j]? = some v → Value.okWide Tryz.prog W .any base t v := hval0
  refine law_post (rs := types) (bt := 4) (by kernel_rfl) (by kernel_rfl) (fun t ht => ?_) Tryz.underlying4 (by kernel_rfl) rfl (fun ds hds => ?_) hW hval fun l has => ?_
  · rw [Tryz.params4] at ht
    simp at ht
    first
      | (subst ht; exact ⟨by simp [types], by kernel_rfl, of_decide_eq_true (by kernel_rfl)⟩)
      | (rcases ht with rfl | rfl <;> exact ⟨by simp [types], by kernel_rfl, of_decide_eq_true (by kernel_rfl)⟩)
      | (rcases ht with rfl | rfl | rfl <;> exact ⟨by simp [types], by kernel_rfl, of_decide_eq_true (by kernel_rfl)⟩)
      | (rcases ht with rfl | rfl | rfl | rfl <;> exact ⟨by simp [types], by kernel_rfl, of_decide_eq_true (by kernel_rfl)⟩)
      | (rcases ht with rfl | rfl | rfl | rfl | rfl <;> exact ⟨by simp [types], by kernel_rfl, of_decide_eq_true (by kernel_rfl)⟩)
      | (rcases ht with rfl | rfl | rfl | rfl | rfl | rfl <;> exact ⟨by simp [types], by kernel_rfl, of_decide_eq_true (by kernel_rfl)⟩)
  · rw [← Array.length_toList, Tryz.params4] at hds
    match ds, hds with
    | [d0, d1], _ => exact ⟨rfl, rfl, rfl⟩
  · rw [Tryz.params4] at has
    cases has with
    | cons h0 has =>
      cases has with
      | cons h1 has =>
        cases has
        obtain ⟨n0, h0⟩ := h0
        rw [if_pos (by decide)] at h0
        obtain ⟨as0, rfl, h0⟩ := h0
        obtain ⟨s0, rfl, k0⟩ := TServer.sh _ _ h0
        obtain ⟨n1, h1⟩ := h1
        rw [if_neg (by decide)] at h1
        obtain ⟨s1, rfl, k1⟩ := sh_int (k := .i64) (t := 3) (by kernel_rfl) h1
        exact A.law_start k0 k1 _

set_option maxHeartbeats 4000000 in
theorem facts : joinedFacts Tryz.pinned.checked.prog 4 Tryz.f4 Rows.fnExactStartWorkSpec Rows.fnExactStartWorkRow = true := by
  unfold joinedFacts
  rw [Closed.heard, Closed.enter, Closed.lifts, Closed.make]
  simp only [Bool.and_eq_true]
  iterate 6 (refine ⟨?_, by as_aux_lemma => kernel_rfl⟩)
  refine ⟨⟨?_, trivial⟩, trivial⟩
  iterate 23 (refine ⟨?_, by as_aux_lemma => kernel_rfl⟩)
  kernel_rfl
theorem named : Tryz.pinned.checked.prog.funcNamed Rows.fnExactStartWorkRow.func = some 4 := by kernel_rfl
theorem inst : Tryz.f4.isInstance Tryz.pinned.checked.prog Rows.fnExactStartWorkRow.origin Rows.fnExactStartWorkRow.targs := of_decide_eq_true (by kernel_rfl)
theorem wrap : Tryz.f4.isWrapper Tryz.pinned.checked.prog Rows.fnExactStartWorkRow.wrapper Rows.fnExactStartWorkRow.mainSum := by
  unfold Func.isWrapper
  first
    | (rw [if_pos (by decide +kernel)]; kernel_rfl)
    | (rw [if_neg (by decide +kernel)]; exact ⟨rfl, rfl⟩)

theorem over : Rows.fnExactStartWorkRow.holds Tryz.pinned (OpenSpec.ofChange Rows.fnExactStartWorkSpec) :=
  OpenClaim.holds_of_wide 4 Tryz.f4 rfl rfl rfl rfl rfl rfl rfl ⟨rfl, rfl, rfl, rfl, rfl⟩ rfl rfl rfl rfl rfl named Tryz.func4 facts inst wrap
    (fun os started H enc _ => lifted os started H enc)

/-- THE STATEMENT -/
theorem proved : Rows.FnExactStartWorkSaid :=
  over
#print axioms proved
end Go.Proofs.YtfcimcoanlgldaaGreat.fnExactStartWork
