import Derived.Lib.Split
import Derived.Test.YtkcilmkienlnoaaGreatDoorB09

/-
  What reads the marks on a server's parts: printed by a program (wip/tools/genobj.py). No condition.
-/

namespace Go.Proofs.YtkcilmkienlnoaaGreatDoor
namespace A
set_option linter.unusedVariables false
set_option linter.unusedSimpArgs false
set_option maxRecDepth 100000

theorem heldFile_nil (k : Int) : Fnc Tryz.prog 46 [.nsl, .int .i64 k] (.int .i64 k) := by
  refine fn_of c46 (by simp [F46]) fun c => ?_
  unfold F46
  simp
  refine loop_drop 0 (fun i e H c' => e 0 = .nsl ∧ e 1 = .int .i64 k ∧ e 5 = .int .i64 0 ∧ H = []) ⟨rfl, rfl, rfl, rfl⟩ ?_
  intro i e H c hi ⟨e0, e1, e5, hH⟩ N hN
  subst hH
  simp [e0, e1, e5]
  exact fin_plain ⟨rfl, rfl⟩
set_option maxHeartbeats 4000000 in
theorem heldFile_fn1 {l : List TFile} (hz : szL cFile l ≤ 16777216) {k : Int} (hk : 0 ≤ k ∧ k ≤ 1099511627776) (t : Nat) :
    Fnc Tryz.prog 46 [(SL.mk t (mks mkFile cFile k l)).av 3 TFile.enc, .int .i64 k] (.int .i64 (k + szL cFile l)) := by
  have hln := szL_cFile l
  refine fn_of c46 (by simp [F46]) fun c => ?_
  unfold F46
  simp
  have hlen := mks_len mkFile cFile k l
  refine loop_drop l.length (fun i e H c' => e 0 = (SL.mk t (mks mkFile cFile k l)).av 3 TFile.enc ∧ e 1 = .int .i64 (k + szL cFile (l.take i)) ∧ e 5 = .int .i64 i ∧ H = []) ⟨rfl, by simp [szL], rfl, rfl⟩ ?_
  intro i e H c hi ⟨e0, e1, e5, hH⟩ N hN
  subst hH
  have hg := fun h : i < l.length => mks_get mkFile cFile k l h
  have hst := fun h : i < l.length => szL_step cFile l h
  have hle := szL_le cFile l i
  have hle' := szL_le cFile l (i + 1)
  generalize hjj : k + (szL cFile (l.take i) : Int) = j at e1 hg
  simp [e0, e1, e5, hlen]
  refine ⟨fun h => ?_, fun h => ?_⟩
  · have hg := hg h
    have hst := hst h
    have hx := szL_mem (sz := cFile) (List.getElem_mem h)
    generalize l[i] = x at hg hst hx
    simp only [cFile] at hx hst
    have w0 : IntKind.i64.wrap (j + 1) = j + 1 := wrap64 (by omega) (by omega)
    have f0 : (mkFile j x).Path = mtext (j) := rfl
    have w1 : IntKind.i64.wrap (j + 1 + 1) = j + 1 + 1 := wrap64 (by omega) (by omega)
    have f1 : (mkFile j x).Source = mtext (j + 1) := rfl
    have w2 : IntKind.i64.wrap (j + 1 + 1 + 1) = j + 1 + 1 + 1 := wrap64 (by omega) (by omega)
    have f2 : (mkFile j x).Version = j + 1 + 1 := rfl
    refine ⟨_, hg, ?_⟩
    simp [e0, e1, e5, h, w0, w1, w2, f0, f1, f2]
    refine callF_fn0 (mtext_fn (by omega)) .str fun _ _ => ?_
    simp [e0, e1, e5, h, w0, w1, w2, f0, f1, f2]
    refine ⟨_, hg, ?_⟩
    simp [e0, e1, e5, h, w0, w1, w2, f0, f1, f2]
    refine callF_fn0 (mtext_fn (by omega)) .str fun _ _ => ?_
    simp [e0, e1, e5, h, w0, w1, w2, f0, f1, f2]
    refine ⟨_, hg, ?_⟩
    simp [e0, e1, e5, h, w0, w1, w2, f0, f1, f2]
    refine hN _ _ _ _ h (List.Sublist.refl _) ⟨by simp [upd, e0], ?_, by simp [upd]; exact step64 (by unfold mx; omega) h, rfl⟩
    simp [upd, w0, w1, w2, hst]; omega
  · have h1 : i = l.length := by omega
    subst h1
    refine fin_plain ⟨?_, rfl⟩
    rw [← hjj]; simp
theorem heldFile_fn {s : SL TFile} (hz : szL cFile s.list ≤ 16777216) {k : Int} (hk : 0 ≤ k ∧ k ≤ 1099511627776) :
    Fnc Tryz.prog 46 [(s.marks mkFile cFile k).av 3 TFile.enc, .int .i64 k] (.int .i64 (k + szL cFile s.list)) := by
  cases s with
  | nil =>
    have := heldFile_nil k
    simpa [SL.av, SL.marks, szL] using this
  | mk t l => exact heldFile_fn1 (l := l) hz hk t
theorem heldSession_nil (k : Int) : Fnc Tryz.prog 48 [.nsl, .int .i64 k] (.int .i64 k) := by
  refine fn_of c48 (by simp [F48]) fun c => ?_
  unfold F48
  simp
  refine loop_drop 0 (fun i e H c' => e 0 = .nsl ∧ e 1 = .int .i64 k ∧ e 5 = .int .i64 0 ∧ H = []) ⟨rfl, rfl, rfl, rfl⟩ ?_
  intro i e H c hi ⟨e0, e1, e5, hH⟩ N hN
  subst hH
  simp [e0, e1, e5]
  exact fin_plain ⟨rfl, rfl⟩
set_option maxHeartbeats 4000000 in
theorem heldSession_fn1 {l : List TSession} (hz : szL cSession l ≤ 16777216) {k : Int} (hk : 0 ≤ k ∧ k ≤ 1099511627776) (t : Nat) :
    Fnc Tryz.prog 48 [(SL.mk t (mks mkSession cSession k l)).av 4 TSession.enc, .int .i64 k] (.int .i64 (k + szL cSession l)) := by
  have hln := szL_cSession l
  refine fn_of c48 (by simp [F48]) fun c => ?_
  unfold F48
  simp
  have hlen := mks_len mkSession cSession k l
  refine loop_drop l.length (fun i e H c' => e 0 = (SL.mk t (mks mkSession cSession k l)).av 4 TSession.enc ∧ e 1 = .int .i64 (k + szL cSession (l.take i)) ∧ e 5 = .int .i64 i ∧ H = []) ⟨rfl, by simp [szL], rfl, rfl⟩ ?_
  intro i e H c hi ⟨e0, e1, e5, hH⟩ N hN
  subst hH
  have hg := fun h : i < l.length => mks_get mkSession cSession k l h
  have hst := fun h : i < l.length => szL_step cSession l h
  have hle := szL_le cSession l i
  have hle' := szL_le cSession l (i + 1)
  generalize hjj : k + (szL cSession (l.take i) : Int) = j at e1 hg
  simp [e0, e1, e5, hlen]
  refine ⟨fun h => ?_, fun h => ?_⟩
  · have hg := hg h
    have hst := hst h
    have hx := szL_mem (sz := cSession) (List.getElem_mem h)
    generalize l[i] = x at hg hst hx
    simp only [cSession] at hx hst
    have w0 : IntKind.i64.wrap (j + 1) = j + 1 := wrap64 (by omega) (by omega)
    have f0 : (mkSession j x).Id = mtext (j) := rfl
    have w1 : IntKind.i64.wrap (j + 1 + 1) = j + 1 + 1 := wrap64 (by omega) (by omega)
    have f1 : (mkSession j x).Data = mtext (j + 1) := rfl
    have w2 : IntKind.i64.wrap (j + 1 + 1 + 1) = j + 1 + 1 + 1 := wrap64 (by omega) (by omega)
    have f2 : (mkSession j x).Holder = j + 1 + 1 := rfl
    have w3 : IntKind.i64.wrap (j + 1 + 1 + 1 + 1) = j + 1 + 1 + 1 + 1 := wrap64 (by omega) (by omega)
    have f3 : (mkSession j x).At = j + 1 + 1 + 1 := rfl
    refine ⟨_, hg, ?_⟩
    simp [e0, e1, e5, h, w0, w1, w2, w3, f0, f1, f2, f3]
    refine callF_fn0 (mtext_fn (by omega)) .str fun _ _ => ?_
    simp [e0, e1, e5, h, w0, w1, w2, w3, f0, f1, f2, f3]
    refine ⟨_, hg, ?_⟩
    simp [e0, e1, e5, h, w0, w1, w2, w3, f0, f1, f2, f3]
    refine callF_fn0 (mtext_fn (by omega)) .str fun _ _ => ?_
    simp [e0, e1, e5, h, w0, w1, w2, w3, f0, f1, f2, f3]
    refine ⟨_, hg, ?_⟩
    simp [e0, e1, e5, h, w0, w1, w2, w3, f0, f1, f2, f3]
    refine ⟨_, hg, ?_⟩
    simp [e0, e1, e5, h, w0, w1, w2, w3, f0, f1, f2, f3]
    refine hN _ _ _ _ h (List.Sublist.refl _) ⟨by simp [upd, e0], ?_, by simp [upd]; exact step64 (by unfold mx; omega) h, rfl⟩
    simp [upd, w0, w1, w2, w3, hst]; omega
  · have h1 : i = l.length := by omega
    subst h1
    refine fin_plain ⟨?_, rfl⟩
    rw [← hjj]; simp
theorem heldSession_fn {s : SL TSession} (hz : szL cSession s.list ≤ 16777216) {k : Int} (hk : 0 ≤ k ∧ k ≤ 1099511627776) :
    Fnc Tryz.prog 48 [(s.marks mkSession cSession k).av 4 TSession.enc, .int .i64 k] (.int .i64 (k + szL cSession s.list)) := by
  cases s with
  | nil =>
    have := heldSession_nil k
    simpa [SL.av, SL.marks, szL] using this
  | mk t l => exact heldSession_fn1 (l := l) hz hk t
theorem heldPair_nil (k : Int) : Fnc Tryz.prog 91 [.nsl, .int .i64 k] (.int .i64 k) := by
  refine fn_of c91 (by simp [F91]) fun c => ?_
  unfold F91
  simp
  refine loop_drop 0 (fun i e H c' => e 0 = .nsl ∧ e 1 = .int .i64 k ∧ e 5 = .int .i64 0 ∧ H = []) ⟨rfl, rfl, rfl, rfl⟩ ?_
  intro i e H c hi ⟨e0, e1, e5, hH⟩ N hN
  subst hH
  simp [e0, e1, e5]
  exact fin_plain ⟨rfl, rfl⟩
set_option maxHeartbeats 4000000 in
theorem heldPair_fn1 {l : List TPair} (hz : szL cPair l ≤ 16777216) {k : Int} (hk : 0 ≤ k ∧ k ≤ 1099511627776) (t : Nat) :
    Fnc Tryz.prog 91 [(SL.mk t (mks mkPair cPair k l)).av 2 TPair.enc, .int .i64 k] (.int .i64 (k + szL cPair l)) := by
  have hln := szL_cPair l
  refine fn_of c91 (by simp [F91]) fun c => ?_
  unfold F91
  simp
  have hlen := mks_len mkPair cPair k l
  refine loop_drop l.length (fun i e H c' => e 0 = (SL.mk t (mks mkPair cPair k l)).av 2 TPair.enc ∧ e 1 = .int .i64 (k + szL cPair (l.take i)) ∧ e 5 = .int .i64 i ∧ H = []) ⟨rfl, by simp [szL], rfl, rfl⟩ ?_
  intro i e H c hi ⟨e0, e1, e5, hH⟩ N hN
  subst hH
  have hg := fun h : i < l.length => mks_get mkPair cPair k l h
  have hst := fun h : i < l.length => szL_step cPair l h
  have hle := szL_le cPair l i
  have hle' := szL_le cPair l (i + 1)
  generalize hjj : k + (szL cPair (l.take i) : Int) = j at e1 hg
  simp [e0, e1, e5, hlen]
  refine ⟨fun h => ?_, fun h => ?_⟩
  · have hg := hg h
    have hst := hst h
    have hx := szL_mem (sz := cPair) (List.getElem_mem h)
    generalize l[i] = x at hg hst hx
    simp only [cPair] at hx hst
    have w0 : IntKind.i64.wrap (j + 1) = j + 1 := wrap64 (by omega) (by omega)
    have f0 : (mkPair j x).Name = mtext (j) := rfl
    have w1 : IntKind.i64.wrap (j + 1 + 1) = j + 1 + 1 := wrap64 (by omega) (by omega)
    have f1 : (mkPair j x).Value = mtext (j + 1) := rfl
    refine ⟨_, hg, ?_⟩
    simp [e0, e1, e5, h, w0, w1, f0, f1]
    refine callF_fn0 (mtext_fn (by omega)) .str fun _ _ => ?_
    simp [e0, e1, e5, h, w0, w1, f0, f1]
    refine ⟨_, hg, ?_⟩
    simp [e0, e1, e5, h, w0, w1, f0, f1]
    refine callF_fn0 (mtext_fn (by omega)) .str fun _ _ => ?_
    simp [e0, e1, e5, h, w0, w1, f0, f1]
    refine hN _ _ _ _ h (List.Sublist.refl _) ⟨by simp [upd, e0], ?_, by simp [upd]; exact step64 (by unfold mx; omega) h, rfl⟩
    simp [upd, w0, w1, hst]; omega
  · have h1 : i = l.length := by omega
    subst h1
    refine fin_plain ⟨?_, rfl⟩
    rw [← hjj]; simp
theorem heldPair_fn {s : SL TPair} (hz : szL cPair s.list ≤ 16777216) {k : Int} (hk : 0 ≤ k ∧ k ≤ 1099511627776) :
    Fnc Tryz.prog 91 [(s.marks mkPair cPair k).av 2 TPair.enc, .int .i64 k] (.int .i64 (k + szL cPair s.list)) := by
  cases s with
  | nil =>
    have := heldPair_nil k
    simpa [SL.av, SL.marks, szL] using this
  | mk t l => exact heldPair_fn1 (l := l) hz hk t
theorem heldHeader_nil (k : Int) : Fnc Tryz.prog 92 [.nsl, .int .i64 k] (.int .i64 k) := by
  refine fn_of c92 (by simp [F92]) fun c => ?_
  unfold F92
  simp
  refine loop_drop 0 (fun i e H c' => e 0 = .nsl ∧ e 1 = .int .i64 k ∧ e 5 = .int .i64 0 ∧ H = []) ⟨rfl, rfl, rfl, rfl⟩ ?_
  intro i e H c hi ⟨e0, e1, e5, hH⟩ N hN
  subst hH
  simp [e0, e1, e5]
  exact fin_plain ⟨rfl, rfl⟩
set_option maxHeartbeats 4000000 in
theorem heldHeader_fn1 {l : List THeader} (hz : szL cHeader l ≤ 16777216) {k : Int} (hk : 0 ≤ k ∧ k ≤ 1099511627776) (t : Nat) :
    Fnc Tryz.prog 92 [(SL.mk t (mks mkHeader cHeader k l)).av 2 THeader.enc, .int .i64 k] (.int .i64 (k + szL cHeader l)) := by
  have hln := szL_cHeader l
  refine fn_of c92 (by simp [F92]) fun c => ?_
  unfold F92
  simp
  have hlen := mks_len mkHeader cHeader k l
  refine loop_drop l.length (fun i e H c' => e 0 = (SL.mk t (mks mkHeader cHeader k l)).av 2 THeader.enc ∧ e 1 = .int .i64 (k + szL cHeader (l.take i)) ∧ e 5 = .int .i64 i ∧ H = []) ⟨rfl, by simp [szL], rfl, rfl⟩ ?_
  intro i e H c hi ⟨e0, e1, e5, hH⟩ N hN
  subst hH
  have hg := fun h : i < l.length => mks_get mkHeader cHeader k l h
  have hst := fun h : i < l.length => szL_step cHeader l h
  have hle := szL_le cHeader l i
  have hle' := szL_le cHeader l (i + 1)
  generalize hjj : k + (szL cHeader (l.take i) : Int) = j at e1 hg
  simp [e0, e1, e5, hlen]
  refine ⟨fun h => ?_, fun h => ?_⟩
  · have hg := hg h
    have hst := hst h
    have hx := szL_mem (sz := cHeader) (List.getElem_mem h)
    generalize l[i] = x at hg hst hx
    simp only [cHeader] at hx hst
    have w0 : IntKind.i64.wrap (j + 1) = j + 1 := wrap64 (by omega) (by omega)
    have f0 : (mkHeader j x).Name = mtext (j) := rfl
    have w1 : IntKind.i64.wrap (j + 1 + 1) = j + 1 + 1 := wrap64 (by omega) (by omega)
    have f1 : (mkHeader j x).Value = mtext (j + 1) := rfl
    refine ⟨_, hg, ?_⟩
    simp [e0, e1, e5, h, w0, w1, f0, f1]
    refine callF_fn0 (mtext_fn (by omega)) .str fun _ _ => ?_
    simp [e0, e1, e5, h, w0, w1, f0, f1]
    refine ⟨_, hg, ?_⟩
    simp [e0, e1, e5, h, w0, w1, f0, f1]
    refine callF_fn0 (mtext_fn (by omega)) .str fun _ _ => ?_
    simp [e0, e1, e5, h, w0, w1, f0, f1]
    refine hN _ _ _ _ h (List.Sublist.refl _) ⟨by simp [upd, e0], ?_, by simp [upd]; exact step64 (by unfold mx; omega) h, rfl⟩
    simp [upd, w0, w1, hst]; omega
  · have h1 : i = l.length := by omega
    subst h1
    refine fin_plain ⟨?_, rfl⟩
    rw [← hjj]; simp
theorem heldHeader_fn {s : SL THeader} (hz : szL cHeader s.list ≤ 16777216) {k : Int} (hk : 0 ≤ k ∧ k ≤ 1099511627776) :
    Fnc Tryz.prog 92 [(s.marks mkHeader cHeader k).av 2 THeader.enc, .int .i64 k] (.int .i64 (k + szL cHeader s.list)) := by
  cases s with
  | nil =>
    have := heldHeader_nil k
    simpa [SL.av, SL.marks, szL] using this
  | mk t l => exact heldHeader_fn1 (l := l) hz hk t
theorem heldJob_nil (k : Int) : Fnc Tryz.prog 49 [.nsl, .int .i64 k] (.int .i64 k) := by
  refine fn_of c49 (by simp [F49]) fun c => ?_
  unfold F49
  simp
  refine loop_drop 0 (fun i e H c' => e 0 = .nsl ∧ e 1 = .int .i64 k ∧ e 5 = .int .i64 0 ∧ H = []) ⟨rfl, rfl, rfl, rfl⟩ ?_
  intro i e H c hi ⟨e0, e1, e5, hH⟩ N hN
  subst hH
  simp [e0, e1, e5]
  exact fin_plain ⟨rfl, rfl⟩
set_option maxHeartbeats 4000000 in
theorem heldJob_fn1 {l : List TJob} (hz : szL cJob l ≤ 16777216) {k : Int} (hk : 0 ≤ k ∧ k ≤ 549755813888) (t : Nat) :
    Fnc Tryz.prog 49 [(SL.mk t (mks mkJob cJob k l)).av 5 TJob.enc, .int .i64 k] (.int .i64 (k + szL cJob l)) := by
  have hln := szL_cJob l
  refine fn_of c49 (by simp [F49]) fun c => ?_
  unfold F49
  simp
  have hlen := mks_len mkJob cJob k l
  refine loop_drop l.length (fun i e H c' => e 0 = (SL.mk t (mks mkJob cJob k l)).av 5 TJob.enc ∧ e 1 = .int .i64 (k + szL cJob (l.take i)) ∧ e 5 = .int .i64 i ∧ H = []) ⟨rfl, by simp [szL], rfl, rfl⟩ ?_
  intro i e H c hi ⟨e0, e1, e5, hH⟩ N hN
  subst hH
  have hg := fun h : i < l.length => mks_get mkJob cJob k l h
  have hst := fun h : i < l.length => szL_step cJob l h
  have hle := szL_le cJob l i
  have hle' := szL_le cJob l (i + 1)
  generalize hjj : k + (szL cJob (l.take i) : Int) = j at e1 hg
  simp [e0, e1, e5, hlen]
  refine ⟨fun h => ?_, fun h => ?_⟩
  · have hg := hg h
    have hst := hst h
    have hx := szL_mem (sz := cJob) (List.getElem_mem h)
    generalize l[i] = x at hg hst hx
    simp only [cJob] at hx hst
    have w0 : IntKind.i64.wrap (j + 1) = j + 1 := wrap64 (by omega) (by omega)
    have f0 : (mkJob j x).Id = j := rfl
    have w1 : IntKind.i64.wrap (j + 1 + 1) = j + 1 + 1 := wrap64 (by omega) (by omega)
    have f1 : (mkJob j x).Request.Path = mtext (j + 1) := rfl
    have f2 : (mkJob j x).Request.Query = x.Request.Query.marks mkPair cPair (j + 1 + 1) := rfl
    have f3 : (mkJob j x).Request.Cookies = x.Request.Cookies.marks mkPair cPair (j + 1 + 1 + szL cPair x.Request.Query.list) := rfl
    have w4 : IntKind.i64.wrap (j + 1 + 1 + szL cPair x.Request.Query.list + szL cPair x.Request.Cookies.list + 1) = j + 1 + 1 + szL cPair x.Request.Query.list + szL cPair x.Request.Cookies.list + 1 := wrap64 (by omega) (by omega)
    have f4 : (mkJob j x).Session = mtext (j + 1 + 1 + szL cPair x.Request.Query.list + szL cPair x.Request.Cookies.list) := rfl
    have p2 : ¬ (j + 1 + 1 + szL cPair x.Request.Query.list < 0) := by omega
    have p3 : ¬ (j + 1 + 1 + szL cPair x.Request.Query.list + szL cPair x.Request.Cookies.list < 0) := by omega
    refine ⟨_, hg, ?_⟩
    simp [e0, e1, e5, h, w0, w1, w4, f0, f1, f2, f3, f4, p2, p3]
    refine ⟨_, hg, ?_⟩
    simp [e0, e1, e5, h, w0, w1, w4, f0, f1, f2, f3, f4, p2, p3]
    refine callF_fn0 (mtext_fn (by omega)) .str fun _ _ => ?_
    simp [e0, e1, e5, h, w0, w1, w4, f0, f1, f2, f3, f4, p2, p3]
    refine ⟨_, hg, ?_⟩
    simp [e0, e1, e5, h, w0, w1, w4, f0, f1, f2, f3, f4, p2, p3]
    refine call_fn0 (heldPair_fn (s := x.Request.Query) (by omega) (k := j + 1 + 1) ⟨by omega, by omega⟩) .int fun _ _ => ?_
    simp [e0, e1, e5, h, w0, w1, w4, f0, f1, f2, f3, f4, p2, p3]
    refine ⟨_, hg, ?_⟩
    simp [e0, e1, e5, h, w0, w1, w4, f0, f1, f2, f3, f4, p2, p3]
    refine call_fn0 (heldPair_fn (s := x.Request.Cookies) (by omega) (k := j + 1 + 1 + szL cPair x.Request.Query.list) ⟨by omega, by omega⟩) .int fun _ _ => ?_
    simp [e0, e1, e5, h, w0, w1, w4, f0, f1, f2, f3, f4, p2, p3]
    refine ⟨_, hg, ?_⟩
    simp [e0, e1, e5, h, w0, w1, w4, f0, f1, f2, f3, f4, p2, p3]
    refine callF_fn0 (mtext_fn (by omega)) .str fun _ _ => ?_
    simp [e0, e1, e5, h, w0, w1, w4, f0, f1, f2, f3, f4, p2, p3]
    refine hN _ _ _ _ h (List.Sublist.refl _) ⟨by simp [upd, e0], ?_, by simp [upd]; exact step64 (by unfold mx; omega) h, rfl⟩
    simp [upd, w0, w1, w4, hst]; omega
  · have h1 : i = l.length := by omega
    subst h1
    refine fin_plain ⟨?_, rfl⟩
    rw [← hjj]; simp
theorem heldJob_fn {s : SL TJob} (hz : szL cJob s.list ≤ 16777216) {k : Int} (hk : 0 ≤ k ∧ k ≤ 549755813888) :
    Fnc Tryz.prog 49 [(s.marks mkJob cJob k).av 5 TJob.enc, .int .i64 k] (.int .i64 (k + szL cJob s.list)) := by
  cases s with
  | nil =>
    have := heldJob_nil k
    simpa [SL.av, SL.marks, szL] using this
  | mk t l => exact heldJob_fn1 (l := l) hz hk t
theorem heldWorker_nil (k : Int) : Fnc Tryz.prog 50 [.nsl, .int .i64 k] (.int .i64 k) := by
  refine fn_of c50 (by simp [F50]) fun c => ?_
  unfold F50
  simp
  refine loop_drop 0 (fun i e H c' => e 0 = .nsl ∧ e 1 = .int .i64 k ∧ e 5 = .int .i64 0 ∧ H = []) ⟨rfl, rfl, rfl, rfl⟩ ?_
  intro i e H c hi ⟨e0, e1, e5, hH⟩ N hN
  subst hH
  simp [e0, e1, e5]
  exact fin_plain ⟨rfl, rfl⟩
set_option maxHeartbeats 4000000 in
theorem heldWorker_fn1 {l : List TWorker} (hz : szL cWorker l ≤ 16777216) {k : Int} (hk : 0 ≤ k ∧ k ≤ 549755813888) (t : Nat) :
    Fnc Tryz.prog 50 [(SL.mk t (mks mkWorker cWorker k l)).av 9 TWorker.enc, .int .i64 k] (.int .i64 (k + szL cWorker l)) := by
  have hln := szL_cWorker l
  refine fn_of c50 (by simp [F50]) fun c => ?_
  unfold F50
  simp
  have hlen := mks_len mkWorker cWorker k l
  refine loop_drop l.length (fun i e H c' => e 0 = (SL.mk t (mks mkWorker cWorker k l)).av 9 TWorker.enc ∧ e 1 = .int .i64 (k + szL cWorker (l.take i)) ∧ e 5 = .int .i64 i ∧ H = []) ⟨rfl, by simp [szL], rfl, rfl⟩ ?_
  intro i e H c hi ⟨e0, e1, e5, hH⟩ N hN
  subst hH
  have hg := fun h : i < l.length => mks_get mkWorker cWorker k l h
  have hst := fun h : i < l.length => szL_step cWorker l h
  have hle := szL_le cWorker l i
  have hle' := szL_le cWorker l (i + 1)
  generalize hjj : k + (szL cWorker (l.take i) : Int) = j at e1 hg
  simp [e0, e1, e5, hlen]
  refine ⟨fun h => ?_, fun h => ?_⟩
  · have hg := hg h
    have hst := hst h
    have hx := szL_mem (sz := cWorker) (List.getElem_mem h)
    generalize l[i] = x at hg hst hx
    simp only [cWorker] at hx hst
    have w0 : IntKind.i64.wrap (j + 1) = j + 1 := wrap64 (by omega) (by omega)
    have f0 : (mkWorker j x).State = j := rfl
    have w1 : IntKind.i64.wrap (j + 1 + 1) = j + 1 + 1 := wrap64 (by omega) (by omega)
    have f1 : (mkWorker j x).Job.Id = j + 1 := rfl
    have w2 : IntKind.i64.wrap (j + 1 + 1 + 1) = j + 1 + 1 + 1 := wrap64 (by omega) (by omega)
    have f2 : (mkWorker j x).Job.Request.Path = mtext (j + 1 + 1) := rfl
    have f3 : (mkWorker j x).Job.Request.Query = x.Job.Request.Query.marks mkPair cPair (j + 1 + 1 + 1) := rfl
    have f4 : (mkWorker j x).Job.Request.Cookies = x.Job.Request.Cookies.marks mkPair cPair (j + 1 + 1 + 1 + szL cPair x.Job.Request.Query.list) := rfl
    have w5 : IntKind.i64.wrap (j + 1 + 1 + 1 + szL cPair x.Job.Request.Query.list + szL cPair x.Job.Request.Cookies.list + 1) = j + 1 + 1 + 1 + szL cPair x.Job.Request.Query.list + szL cPair x.Job.Request.Cookies.list + 1 := wrap64 (by omega) (by omega)
    have f5 : (mkWorker j x).Job.Session = mtext (j + 1 + 1 + 1 + szL cPair x.Job.Request.Query.list + szL cPair x.Job.Request.Cookies.list) := rfl
    have w6 : IntKind.i64.wrap (j + 1 + 1 + 1 + szL cPair x.Job.Request.Query.list + szL cPair x.Job.Request.Cookies.list + 1 + 1) = j + 1 + 1 + 1 + szL cPair x.Job.Request.Query.list + szL cPair x.Job.Request.Cookies.list + 1 + 1 := wrap64 (by omega) (by omega)
    have f6 : (mkWorker j x).Data = mtext (j + 1 + 1 + 1 + szL cPair x.Job.Request.Query.list + szL cPair x.Job.Request.Cookies.list + 1) := rfl
    have f7 : (mkWorker j x).Files = x.Files.marks mkFile cFile (j + 1 + 1 + 1 + szL cPair x.Job.Request.Query.list + szL cPair x.Job.Request.Cookies.list + 1 + 1) := rfl
    have w8 : IntKind.i64.wrap (j + 1 + 1 + 1 + szL cPair x.Job.Request.Query.list + szL cPair x.Job.Request.Cookies.list + 1 + 1 + szL cFile x.Files.list + 1) = j + 1 + 1 + 1 + szL cPair x.Job.Request.Query.list + szL cPair x.Job.Request.Cookies.list + 1 + 1 + szL cFile x.Files.list + 1 := wrap64 (by omega) (by omega)
    have f8 : (mkWorker j x).Served = j + 1 + 1 + 1 + szL cPair x.Job.Request.Query.list + szL cPair x.Job.Request.Cookies.list + 1 + 1 + szL cFile x.Files.list := rfl
    have p3 : ¬ (j + 1 + 1 + 1 + szL cPair x.Job.Request.Query.list < 0) := by omega
    have p4 : ¬ (j + 1 + 1 + 1 + szL cPair x.Job.Request.Query.list + szL cPair x.Job.Request.Cookies.list < 0) := by omega
    have p7 : ¬ (j + 1 + 1 + 1 + szL cPair x.Job.Request.Query.list + szL cPair x.Job.Request.Cookies.list + 1 + 1 + szL cFile x.Files.list < 0) := by omega
    refine ⟨_, hg, ?_⟩
    simp [e0, e1, e5, h, w0, w1, w2, w5, w6, w8, f0, f1, f2, f3, f4, f5, f6, f7, f8, p3, p4, p7]
    refine ⟨_, hg, ?_⟩
    simp [e0, e1, e5, h, w0, w1, w2, w5, w6, w8, f0, f1, f2, f3, f4, f5, f6, f7, f8, p3, p4, p7]
    refine ⟨_, hg, ?_⟩
    simp [e0, e1, e5, h, w0, w1, w2, w5, w6, w8, f0, f1, f2, f3, f4, f5, f6, f7, f8, p3, p4, p7]
    refine callF_fn0 (mtext_fn (by omega)) .str fun _ _ => ?_
    simp [e0, e1, e5, h, w0, w1, w2, w5, w6, w8, f0, f1, f2, f3, f4, f5, f6, f7, f8, p3, p4, p7]
    refine ⟨_, hg, ?_⟩
    simp [e0, e1, e5, h, w0, w1, w2, w5, w6, w8, f0, f1, f2, f3, f4, f5, f6, f7, f8, p3, p4, p7]
    refine call_fn0 (heldPair_fn (s := x.Job.Request.Query) (by omega) (k := j + 1 + 1 + 1) ⟨by omega, by omega⟩) .int fun _ _ => ?_
    simp [e0, e1, e5, h, w0, w1, w2, w5, w6, w8, f0, f1, f2, f3, f4, f5, f6, f7, f8, p3, p4, p7]
    refine ⟨_, hg, ?_⟩
    simp [e0, e1, e5, h, w0, w1, w2, w5, w6, w8, f0, f1, f2, f3, f4, f5, f6, f7, f8, p3, p4, p7]
    refine call_fn0 (heldPair_fn (s := x.Job.Request.Cookies) (by omega) (k := j + 1 + 1 + 1 + szL cPair x.Job.Request.Query.list) ⟨by omega, by omega⟩) .int fun _ _ => ?_
    simp [e0, e1, e5, h, w0, w1, w2, w5, w6, w8, f0, f1, f2, f3, f4, f5, f6, f7, f8, p3, p4, p7]
    refine ⟨_, hg, ?_⟩
    simp [e0, e1, e5, h, w0, w1, w2, w5, w6, w8, f0, f1, f2, f3, f4, f5, f6, f7, f8, p3, p4, p7]
    refine callF_fn0 (mtext_fn (by omega)) .str fun _ _ => ?_
    simp [e0, e1, e5, h, w0, w1, w2, w5, w6, w8, f0, f1, f2, f3, f4, f5, f6, f7, f8, p3, p4, p7]
    refine ⟨_, hg, ?_⟩
    simp [e0, e1, e5, h, w0, w1, w2, w5, w6, w8, f0, f1, f2, f3, f4, f5, f6, f7, f8, p3, p4, p7]
    refine callF_fn0 (mtext_fn (by omega)) .str fun _ _ => ?_
    simp [e0, e1, e5, h, w0, w1, w2, w5, w6, w8, f0, f1, f2, f3, f4, f5, f6, f7, f8, p3, p4, p7]
    refine ⟨_, hg, ?_⟩
    simp [e0, e1, e5, h, w0, w1, w2, w5, w6, w8, f0, f1, f2, f3, f4, f5, f6, f7, f8, p3, p4, p7]
    refine call_fn0 (heldFile_fn (s := x.Files) (by omega) (k := j + 1 + 1 + 1 + szL cPair x.Job.Request.Query.list + szL cPair x.Job.Request.Cookies.list + 1 + 1) ⟨by omega, by omega⟩) .int fun _ _ => ?_
    simp [e0, e1, e5, h, w0, w1, w2, w5, w6, w8, f0, f1, f2, f3, f4, f5, f6, f7, f8, p3, p4, p7]
    refine ⟨_, hg, ?_⟩
    simp [e0, e1, e5, h, w0, w1, w2, w5, w6, w8, f0, f1, f2, f3, f4, f5, f6, f7, f8, p3, p4, p7]
    refine hN _ _ _ _ h (List.Sublist.refl _) ⟨by simp [upd, e0], ?_, by simp [upd]; exact step64 (by unfold mx; omega) h, rfl⟩
    simp [upd, w0, w1, w2, w5, w6, w8, hst]; omega
  · have h1 : i = l.length := by omega
    subst h1
    refine fin_plain ⟨?_, rfl⟩
    rw [← hjj]; simp
theorem heldWorker_fn {s : SL TWorker} (hz : szL cWorker s.list ≤ 16777216) {k : Int} (hk : 0 ≤ k ∧ k ≤ 549755813888) :
    Fnc Tryz.prog 50 [(s.marks mkWorker cWorker k).av 9 TWorker.enc, .int .i64 k] (.int .i64 (k + szL cWorker s.list)) := by
  cases s with
  | nil =>
    have := heldWorker_nil k
    simpa [SL.av, SL.marks, szL] using this
  | mk t l => exact heldWorker_fn1 (l := l) hz hk t
theorem heldAnswer_nil (k : Int) : Fnc Tryz.prog 51 [.nsl, .int .i64 k] (.int .i64 k) := by
  refine fn_of c51 (by simp [F51]) fun c => ?_
  unfold F51
  simp
  refine loop_drop 0 (fun i e H c' => e 0 = .nsl ∧ e 1 = .int .i64 k ∧ e 5 = .int .i64 0 ∧ H = []) ⟨rfl, rfl, rfl, rfl⟩ ?_
  intro i e H c hi ⟨e0, e1, e5, hH⟩ N hN
  subst hH
  simp [e0, e1, e5]
  exact fin_plain ⟨rfl, rfl⟩
set_option maxHeartbeats 4000000 in
theorem heldAnswer_fn1 {l : List TAnswer} (hz : szL cAnswer l ≤ 16777216) {k : Int} (hk : 0 ≤ k ∧ k ≤ 549755813888) (t : Nat) :
    Fnc Tryz.prog 51 [(SL.mk t (mks mkAnswer cAnswer k l)).av 11 TAnswer.enc, .int .i64 k] (.int .i64 (k + szL cAnswer l)) := by
  have hln := szL_cAnswer l
  refine fn_of c51 (by simp [F51]) fun c => ?_
  unfold F51
  simp
  have hlen := mks_len mkAnswer cAnswer k l
  refine loop_drop l.length (fun i e H c' => e 0 = (SL.mk t (mks mkAnswer cAnswer k l)).av 11 TAnswer.enc ∧ e 1 = .int .i64 (k + szL cAnswer (l.take i)) ∧ e 5 = .int .i64 i ∧ H = []) ⟨rfl, by simp [szL], rfl, rfl⟩ ?_
  intro i e H c hi ⟨e0, e1, e5, hH⟩ N hN
  subst hH
  have hg := fun h : i < l.length => mks_get mkAnswer cAnswer k l h
  have hst := fun h : i < l.length => szL_step cAnswer l h
  have hle := szL_le cAnswer l i
  have hle' := szL_le cAnswer l (i + 1)
  generalize hjj : k + (szL cAnswer (l.take i) : Int) = j at e1 hg
  simp [e0, e1, e5, hlen]
  refine ⟨fun h => ?_, fun h => ?_⟩
  · have hg := hg h
    have hst := hst h
    have hx := szL_mem (sz := cAnswer) (List.getElem_mem h)
    generalize l[i] = x at hg hst hx
    simp only [cAnswer] at hx hst
    have w0 : IntKind.i64.wrap (j + 1) = j + 1 := wrap64 (by omega) (by omega)
    have f0 : (mkAnswer j x).Id = j := rfl
    have w1 : IntKind.i64.wrap (j + 1 + 1) = j + 1 + 1 := wrap64 (by omega) (by omega)
    have f1 : (mkAnswer j x).Session = mtext (j + 1) := rfl
    have f2 : (mkAnswer j x).Files = x.Files.marks mkFile cFile (j + 1 + 1) := rfl
    have w3 : IntKind.i64.wrap (j + 1 + 1 + szL cFile x.Files.list + 1) = j + 1 + 1 + szL cFile x.Files.list + 1 := wrap64 (by omega) (by omega)
    have f3 : (mkAnswer j x).Request.Path = mtext (j + 1 + 1 + szL cFile x.Files.list) := rfl
    have f4 : (mkAnswer j x).Request.Query = x.Request.Query.marks mkPair cPair (j + 1 + 1 + szL cFile x.Files.list + 1) := rfl
    have f5 : (mkAnswer j x).Request.Cookies = x.Request.Cookies.marks mkPair cPair (j + 1 + 1 + szL cFile x.Files.list + 1 + szL cPair x.Request.Query.list) := rfl
    have w6 : IntKind.i64.wrap (j + 1 + 1 + szL cFile x.Files.list + 1 + szL cPair x.Request.Query.list + szL cPair x.Request.Cookies.list + 1) = j + 1 + 1 + szL cFile x.Files.list + 1 + szL cPair x.Request.Query.list + szL cPair x.Request.Cookies.list + 1 := wrap64 (by omega) (by omega)
    have f6 : (mkAnswer j x).Before = mtext (j + 1 + 1 + szL cFile x.Files.list + 1 + szL cPair x.Request.Query.list + szL cPair x.Request.Cookies.list) := rfl
    have w7 : IntKind.i64.wrap (j + 1 + 1 + szL cFile x.Files.list + 1 + szL cPair x.Request.Query.list + szL cPair x.Request.Cookies.list + 1 + 1) = j + 1 + 1 + szL cFile x.Files.list + 1 + szL cPair x.Request.Query.list + szL cPair x.Request.Cookies.list + 1 + 1 := wrap64 (by omega) (by omega)
    have f7 : (mkAnswer j x).Response.Code = j + 1 + 1 + szL cFile x.Files.list + 1 + szL cPair x.Request.Query.list + szL cPair x.Request.Cookies.list + 1 := rfl
    have f8 : (mkAnswer j x).Response.Headers = x.Response.Headers.marks mkHeader cHeader (j + 1 + 1 + szL cFile x.Files.list + 1 + szL cPair x.Request.Query.list + szL cPair x.Request.Cookies.list + 1 + 1) := rfl
    have w9 : IntKind.i64.wrap (j + 1 + 1 + szL cFile x.Files.list + 1 + szL cPair x.Request.Query.list + szL cPair x.Request.Cookies.list + 1 + 1 + szL cHeader x.Response.Headers.list + 1) = j + 1 + 1 + szL cFile x.Files.list + 1 + szL cPair x.Request.Query.list + szL cPair x.Request.Cookies.list + 1 + 1 + szL cHeader x.Response.Headers.list + 1 := wrap64 (by omega) (by omega)
    have f9 : (mkAnswer j x).Response.Body = mtext (j + 1 + 1 + szL cFile x.Files.list + 1 + szL cPair x.Request.Query.list + szL cPair x.Request.Cookies.list + 1 + 1 + szL cHeader x.Response.Headers.list) := rfl
    have w10 : IntKind.i64.wrap (j + 1 + 1 + szL cFile x.Files.list + 1 + szL cPair x.Request.Query.list + szL cPair x.Request.Cookies.list + 1 + 1 + szL cHeader x.Response.Headers.list + 1 + 1) = j + 1 + 1 + szL cFile x.Files.list + 1 + szL cPair x.Request.Query.list + szL cPair x.Request.Cookies.list + 1 + 1 + szL cHeader x.Response.Headers.list + 1 + 1 := wrap64 (by omega) (by omega)
    have f10 : (mkAnswer j x).After = mtext (j + 1 + 1 + szL cFile x.Files.list + 1 + szL cPair x.Request.Query.list + szL cPair x.Request.Cookies.list + 1 + 1 + szL cHeader x.Response.Headers.list + 1) := rfl
    have p2 : ¬ (j + 1 + 1 + szL cFile x.Files.list < 0) := by omega
    have p4 : ¬ (j + 1 + 1 + szL cFile x.Files.list + 1 + szL cPair x.Request.Query.list < 0) := by omega
    have p5 : ¬ (j + 1 + 1 + szL cFile x.Files.list + 1 + szL cPair x.Request.Query.list + szL cPair x.Request.Cookies.list < 0) := by omega
    have p8 : ¬ (j + 1 + 1 + szL cFile x.Files.list + 1 + szL cPair x.Request.Query.list + szL cPair x.Request.Cookies.list + 1 + 1 + szL cHeader x.Response.Headers.list < 0) := by omega
    refine ⟨_, hg, ?_⟩
    simp [e0, e1, e5, h, w0, w1, w3, w6, w7, w9, w10, f0, f1, f2, f3, f4, f5, f6, f7, f8, f9, f10, p2, p4, p5, p8]
    refine ⟨_, hg, ?_⟩
    simp [e0, e1, e5, h, w0, w1, w3, w6, w7, w9, w10, f0, f1, f2, f3, f4, f5, f6, f7, f8, f9, f10, p2, p4, p5, p8]
    refine callF_fn0 (mtext_fn (by omega)) .str fun _ _ => ?_
    simp [e0, e1, e5, h, w0, w1, w3, w6, w7, w9, w10, f0, f1, f2, f3, f4, f5, f6, f7, f8, f9, f10, p2, p4, p5, p8]
    refine ⟨_, hg, ?_⟩
    simp [e0, e1, e5, h, w0, w1, w3, w6, w7, w9, w10, f0, f1, f2, f3, f4, f5, f6, f7, f8, f9, f10, p2, p4, p5, p8]
    refine call_fn0 (heldFile_fn (s := x.Files) (by omega) (k := j + 1 + 1) ⟨by omega, by omega⟩) .int fun _ _ => ?_
    simp [e0, e1, e5, h, w0, w1, w3, w6, w7, w9, w10, f0, f1, f2, f3, f4, f5, f6, f7, f8, f9, f10, p2, p4, p5, p8]
    refine ⟨_, hg, ?_⟩
    simp [e0, e1, e5, h, w0, w1, w3, w6, w7, w9, w10, f0, f1, f2, f3, f4, f5, f6, f7, f8, f9, f10, p2, p4, p5, p8]
    refine callF_fn0 (mtext_fn (by omega)) .str fun _ _ => ?_
    simp [e0, e1, e5, h, w0, w1, w3, w6, w7, w9, w10, f0, f1, f2, f3, f4, f5, f6, f7, f8, f9, f10, p2, p4, p5, p8]
    refine ⟨_, hg, ?_⟩
    simp [e0, e1, e5, h, w0, w1, w3, w6, w7, w9, w10, f0, f1, f2, f3, f4, f5, f6, f7, f8, f9, f10, p2, p4, p5, p8]
    refine call_fn0 (heldPair_fn (s := x.Request.Query) (by omega) (k := j + 1 + 1 + szL cFile x.Files.list + 1) ⟨by omega, by omega⟩) .int fun _ _ => ?_
    simp [e0, e1, e5, h, w0, w1, w3, w6, w7, w9, w10, f0, f1, f2, f3, f4, f5, f6, f7, f8, f9, f10, p2, p4, p5, p8]
    refine ⟨_, hg, ?_⟩
    simp [e0, e1, e5, h, w0, w1, w3, w6, w7, w9, w10, f0, f1, f2, f3, f4, f5, f6, f7, f8, f9, f10, p2, p4, p5, p8]
    refine call_fn0 (heldPair_fn (s := x.Request.Cookies) (by omega) (k := j + 1 + 1 + szL cFile x.Files.list + 1 + szL cPair x.Request.Query.list) ⟨by omega, by omega⟩) .int fun _ _ => ?_
    simp [e0, e1, e5, h, w0, w1, w3, w6, w7, w9, w10, f0, f1, f2, f3, f4, f5, f6, f7, f8, f9, f10, p2, p4, p5, p8]
    refine ⟨_, hg, ?_⟩
    simp [e0, e1, e5, h, w0, w1, w3, w6, w7, w9, w10, f0, f1, f2, f3, f4, f5, f6, f7, f8, f9, f10, p2, p4, p5, p8]
    refine callF_fn0 (mtext_fn (by omega)) .str fun _ _ => ?_
    simp [e0, e1, e5, h, w0, w1, w3, w6, w7, w9, w10, f0, f1, f2, f3, f4, f5, f6, f7, f8, f9, f10, p2, p4, p5, p8]
    refine ⟨_, hg, ?_⟩
    simp [e0, e1, e5, h, w0, w1, w3, w6, w7, w9, w10, f0, f1, f2, f3, f4, f5, f6, f7, f8, f9, f10, p2, p4, p5, p8]
    refine ⟨_, hg, ?_⟩
    simp [e0, e1, e5, h, w0, w1, w3, w6, w7, w9, w10, f0, f1, f2, f3, f4, f5, f6, f7, f8, f9, f10, p2, p4, p5, p8]
    refine call_fn0 (heldHeader_fn (s := x.Response.Headers) (by omega) (k := j + 1 + 1 + szL cFile x.Files.list + 1 + szL cPair x.Request.Query.list + szL cPair x.Request.Cookies.list + 1 + 1) ⟨by omega, by omega⟩) .int fun _ _ => ?_
    simp [e0, e1, e5, h, w0, w1, w3, w6, w7, w9, w10, f0, f1, f2, f3, f4, f5, f6, f7, f8, f9, f10, p2, p4, p5, p8]
    refine ⟨_, hg, ?_⟩
    simp [e0, e1, e5, h, w0, w1, w3, w6, w7, w9, w10, f0, f1, f2, f3, f4, f5, f6, f7, f8, f9, f10, p2, p4, p5, p8]
    refine callF_fn0 (mtext_fn (by omega)) .str fun _ _ => ?_
    simp [e0, e1, e5, h, w0, w1, w3, w6, w7, w9, w10, f0, f1, f2, f3, f4, f5, f6, f7, f8, f9, f10, p2, p4, p5, p8]
    refine ⟨_, hg, ?_⟩
    simp [e0, e1, e5, h, w0, w1, w3, w6, w7, w9, w10, f0, f1, f2, f3, f4, f5, f6, f7, f8, f9, f10, p2, p4, p5, p8]
    refine callF_fn0 (mtext_fn (by omega)) .str fun _ _ => ?_
    simp [e0, e1, e5, h, w0, w1, w3, w6, w7, w9, w10, f0, f1, f2, f3, f4, f5, f6, f7, f8, f9, f10, p2, p4, p5, p8]
    refine hN _ _ _ _ h (List.Sublist.refl _) ⟨by simp [upd, e0], ?_, by simp [upd]; exact step64 (by unfold mx; omega) h, rfl⟩
    simp [upd, w0, w1, w3, w6, w7, w9, w10, hst]; omega
  · have h1 : i = l.length := by omega
    subst h1
    refine fin_plain ⟨?_, rfl⟩
    rw [← hjj]; simp
theorem heldAnswer_fn {s : SL TAnswer} (hz : szL cAnswer s.list ≤ 16777216) {k : Int} (hk : 0 ≤ k ∧ k ≤ 549755813888) :
    Fnc Tryz.prog 51 [(s.marks mkAnswer cAnswer k).av 11 TAnswer.enc, .int .i64 k] (.int .i64 (k + szL cAnswer s.list)) := by
  cases s with
  | nil =>
    have := heldAnswer_nil k
    simpa [SL.av, SL.marks, szL] using this
  | mk t l => exact heldAnswer_fn1 (l := l) hz hk t
theorem heldServer_fn {s : TServer} (hz : szL cFile s.Files.list ≤ 8388608 ∧ szL cLine s.Lines.list ≤ 8388608 ∧ szL cSession s.Sessions.list ≤ 8388608 ∧ szL cJob s.Queue.list ≤ 8388608 ∧ szL cWorker s.Workers.list ≤ 8388608 ∧ szL cAnswer s.Done.list ≤ 8388608) (hw : ∀ x, x ∈ s.Lines.list → x.Words.list.length ≤ 1048576) {k : Int} (hk : 0 ≤ k ∧ k ≤ 1048576) :
    Fnc Tryz.prog 10 [.agg (mkServer k s).enc, .int .i64 k] (.int .i64 (k + cServer s)) := by
  obtain ⟨z1, z2, z3, z4, z5, z6⟩ := hz
  refine fn_of c10 (by simp [F10]) fun c => ?_
  unfold F10
  have f0 : (mkServer k s).Files = s.Files.marks mkFile cFile (k) := rfl
  have p0 : ¬ (k + szL cFile s.Files.list < 0) := by omega
  have f1 : (mkServer k s).Lines = s.Lines.marks mkLine cLine (k + szL cFile s.Files.list) := rfl
  have p1 : ¬ (k + szL cFile s.Files.list + szL cLine s.Lines.list < 0) := by omega
  have f2 : (mkServer k s).Sessions = s.Sessions.marks mkSession cSession (k + szL cFile s.Files.list + szL cLine s.Lines.list) := rfl
  have p2 : ¬ (k + szL cFile s.Files.list + szL cLine s.Lines.list + szL cSession s.Sessions.list < 0) := by omega
  have f3 : (mkServer k s).Queue = s.Queue.marks mkJob cJob (k + szL cFile s.Files.list + szL cLine s.Lines.list + szL cSession s.Sessions.list) := rfl
  have p3 : ¬ (k + szL cFile s.Files.list + szL cLine s.Lines.list + szL cSession s.Sessions.list + szL cJob s.Queue.list < 0) := by omega
  have f4 : (mkServer k s).Workers = s.Workers.marks mkWorker cWorker (k + szL cFile s.Files.list + szL cLine s.Lines.list + szL cSession s.Sessions.list + szL cJob s.Queue.list) := rfl
  have p4 : ¬ (k + szL cFile s.Files.list + szL cLine s.Lines.list + szL cSession s.Sessions.list + szL cJob s.Queue.list + szL cWorker s.Workers.list < 0) := by omega
  have f5 : (mkServer k s).Done = s.Done.marks mkAnswer cAnswer (k + szL cFile s.Files.list + szL cLine s.Lines.list + szL cSession s.Sessions.list + szL cJob s.Queue.list + szL cWorker s.Workers.list) := rfl
  have p5 : ¬ (k + szL cFile s.Files.list + szL cLine s.Lines.list + szL cSession s.Sessions.list + szL cJob s.Queue.list + szL cWorker s.Workers.list + szL cAnswer s.Done.list < 0) := by omega
  simp [f0, p0, f1, p1, f2, p2, f3, p3, f4, p4, f5, p5]
  refine call_fn0 (heldFile_fn (s := s.Files) (by omega) (k := k) ⟨by omega, by omega⟩) .int fun _ _ => ?_
  simp [f0, p0, f1, p1, f2, p2, f3, p3, f4, p4, f5, p5]
  refine call_fn0 (heldLine_fn (s := s.Lines) (by omega) hw (k := k + szL cFile s.Files.list) ⟨by omega, by omega⟩) .int fun _ _ => ?_
  simp [f0, p0, f1, p1, f2, p2, f3, p3, f4, p4, f5, p5]
  refine call_fn0 (heldSession_fn (s := s.Sessions) (by omega) (k := k + szL cFile s.Files.list + szL cLine s.Lines.list) ⟨by omega, by omega⟩) .int fun _ _ => ?_
  simp [f0, p0, f1, p1, f2, p2, f3, p3, f4, p4, f5, p5]
  refine call_fn0 (heldJob_fn (s := s.Queue) (by omega) (k := k + szL cFile s.Files.list + szL cLine s.Lines.list + szL cSession s.Sessions.list) ⟨by omega, by omega⟩) .int fun _ _ => ?_
  simp [f0, p0, f1, p1, f2, p2, f3, p3, f4, p4, f5, p5]
  refine call_fn0 (heldWorker_fn (s := s.Workers) (by omega) (k := k + szL cFile s.Files.list + szL cLine s.Lines.list + szL cSession s.Sessions.list + szL cJob s.Queue.list) ⟨by omega, by omega⟩) .int fun _ _ => ?_
  simp [f0, p0, f1, p1, f2, p2, f3, p3, f4, p4, f5, p5]
  refine call_fn0 (heldAnswer_fn (s := s.Done) (by omega) (k := k + szL cFile s.Files.list + szL cLine s.Lines.list + szL cSession s.Sessions.list + szL cJob s.Queue.list + szL cWorker s.Workers.list) ⟨by omega, by omega⟩) .int fun _ _ => ?_
  simp [f0, p0, f1, p1, f2, p2, f3, p3, f4, p4, f5, p5]
  exact fin_plain ⟨by simp [cServer]; omega, rfl⟩
end A
end Go.Proofs.YtkcilmkienlnoaaGreatDoor

/-
  The objects of a contract stand in no order. No condition.
-/

namespace Go.Proofs.YtkcilmkienlnoaaGreatDoor
namespace A
set_option linter.unusedVariables false
/-- The objects stand in no order, and some may be let go. -/
theorem con_perm {P : Program} {f : Nat} {args : List AV} {H : List AObj} {c : Nat} {Q Q' : AV → List AObj → Nat → Prop} (h : Con P f args H c Q) (hq : ∀ r H' c', Q r H' c' → ∃ Hs H2, Hs.Sublist H' ∧ H2.Perm Hs ∧ Q' r H2 c') : Con P f args H c Q' := by
  intro G w vs e I hs hr
  refine (h G w vs e I hs hr).mono fun en w' ⟨v, res, H', G', h1, h2, h3, h4, h5⟩ => ?_
  obtain ⟨Hs, H2, hsub, hp, q⟩ := hq _ _ _ h2
  have h3 := h3.drop hsub
  have h4 := h4.drop hsub
  have ht : ∀ t, t ∈ tags H2 ↔ t ∈ tags Hs := fun t => (hp.map _).mem_iff
  refine ⟨v, res, H2, G', h1, q, ⟨h3.x, h3.os, h3.tape, h3.output, h3.size, h3.frame, h3.newm, fun t a b => h3.oldH t a ((ht t).1 b), h3.oldF⟩, ⟨h4.fz, fun o ho => h4.obj o (hp.mem_iff.1 ho), fun t a => h4.nfz t ((ht t).1 a), (hp.map _).nodup_iff.2 h4.nodup, fun t t' a b => h4.inj t t' (a.imp id (ht t).1) (b.imp id (ht t').1), h4.gl⟩, h5⟩

theorem perm_cnt {l m : List AObj} (h : ∀ p : AObj → Bool, l.countP p = m.countP p) : l.Perm m := by
  haveI : DecidableEq AObj := fun a b => Classical.propDecidable (a = b)
  exact List.perm_iff_count.2 fun a => h _
end A
end Go.Proofs.YtkcilmkienlnoaaGreatDoor

/-
  Servers kept as0 objects: bounds, marks, what a server's tree hangs on. No condition.
-/


namespace Go.Proofs.YtkcilmkienlnoaaGreatDoor
namespace A
set_option linter.unusedVariables false
set_option linter.unusedSimpArgs false
set_option maxRecDepth 100000

theorem szL_lin {α : Type} (f g : α → Nat) (m n : Nat) (h : ∀ x, f x ≤ m + n * g x) (l : List α) : szL f l ≤ m * l.length + n * szL g l := by
  induction l with
  | nil => simp [szL]
  | cons x l ih =>
    have := h x
    simp only [szL, List.map_cons, List.sum_cons, List.length_cons, Nat.mul_add] at ih ⊢
    omega
theorem server_bounds {s : TServer} (h : s.sz ≤ 1048576) : (szL cFile s.Files.list ≤ 8388608 ∧ szL cLine s.Lines.list ≤ 8388608 ∧ szL cSession s.Sessions.list ≤ 8388608 ∧ szL cJob s.Queue.list ≤ 8388608 ∧ szL cWorker s.Workers.list ≤ 8388608 ∧ szL cAnswer s.Done.list ≤ 8388608) ∧ ∀ x, x ∈ s.Lines.list → x.Words.list.length ≤ 1048576 := by
  simp only [TServer.sz, szFileS, szLineS, szSessionS, szJobS, szWorkerS, szAnswerS] at h
  have hl := szLine_bounds (l := s.Lines.list) (by omega)
  have hj := szL_lin cJob TJob.sz 3 2 (fun x => by simp only [cJob, TJob.sz, TRequest.sz, szPairS, szL_ePair]; omega) s.Queue.list
  have hw := szL_lin cWorker TWorker.sz 6 3 (fun x => by simp only [cWorker, TWorker.sz, TJob.sz, TRequest.sz, szPairS, szFileS, szL_ePair, szL_eFile]; omega) s.Workers.list
  have ha := szL_lin cAnswer TAnswer.sz 7 3 (fun x => by simp only [cAnswer, TAnswer.sz, TRequest.sz, TResponse.sz, szPairS, szFileS, szHeaderS, szL_ePair, szL_eFile, szL_eHeader]; omega) s.Done.list
  refine ⟨⟨?_, hl.1, ?_, ?_, ?_, ?_⟩, hl.2.1⟩
  · rw [szL_eFile]; omega
  · rw [szL_eSession]; omega
  · omega
  · omega
  · omega
theorem callD_fnV {P : Program} {H : List AObj} {c : Nat} {R : AV → Prop} {f : Nat} {l l' : List AV} {K : AV → Prop} {res : AV} (hf : Fnc P f l' res) (hv : Views H l l') (hR : ∀ v, R v ↔ v = res) (hfr : ∀ c, From c res) (k : K res) : callD P R f l H c K :=
  ⟨l', hv, (fun c => (hf c).mono fun r H' c' _ ⟨h1, h2⟩ => ⟨h2, (hR r).2 h1, h1 ▸ hfr c⟩), ⟨res, (hR res).2 rfl, hfr c⟩, fun r hr _ => by rw [(hR r).1 hr]; exact k⟩
theorem mkServer_tags (k : Int) (s : TServer) : tags (mkServer k s).inn = tags s.inn := by
  have eT : ∀ X Y : List AObj, tags (X ++ Y) = tags X ++ tags Y := fun X Y => by simp [tags]
  unfold TServer.inn
  simp only [eT, mkServer]
  rw [tags_wood (inn := noInn) (mk := mkFile) (cnt := cFile) (fun _ _ => rfl), tags_wood (mk := mkLine) (cnt := cLine) mkLine_tags, tags_wood (inn := noInn) (mk := mkSession) (cnt := cSession) (fun _ _ => rfl), tags_wood (mk := mkJob) (cnt := cJob) mkJob_tags, tags_wood (mk := mkWorker) (cnt := cWorker) mkWorker_tags, tags_wood (mk := mkAnswer) (cnt := cAnswer) mkAnswer_tags]
theorem mkServer_len (k : Int) (s : TServer) : (mkServer k s).inn.length = s.inn.length := by
  have := congrArg List.length (mkServer_tags k s)
  simpa [tags] using this
theorem mkServer_encO (k : Int) (s : TServer) : (mkServer k s).encO = s.encO := by simp [TServer.encO, mkServer, SL.marks_ref]
theorem markServer_at {s : TServer} (hz : szL cFile s.Files.list ≤ 8388608 ∧ szL cLine s.Lines.list ≤ 8388608 ∧ szL cSession s.Sessions.list ≤ 8388608 ∧ szL cJob s.Queue.list ≤ 8388608 ∧ szL cWorker s.Workers.list ≤ 8388608 ∧ szL cAnswer s.Done.list ≤ 8388608) (hw : ∀ x, x ∈ s.Lines.list → x.Words.list.length ≤ 1048576)
    {A C H X : List AObj} {c : Nat} {K : AV → List AObj → Nat → Prop} (hH : H = A ++ (s.inn ++ C)) (hX : A ++ ((mkServer 1 s).inn ++ C) = X) (k : ∀ c', c ≤ c' → K (.int .i64 (1 + cServer s)) X c') : CallW Tryz.prog 9 [.agg s.encO, .int .i64 1] H c K := by
  rw [hH, ← List.append_assoc]
  refine call_mid (markServer_con hz hw (k := 1) ⟨by omega, by omega⟩ c) (Views.refl _ _) fun r B' c' hc ⟨h1, h2⟩ => ?_
  subst h1; subst h2
  exact ⟨mkServer_tags _ _, .int, fun o ho => TServer.freeI _ o ho _, by rw [List.append_assoc, hX]; exact k c' hc⟩

/-! ### what a server's tree hangs on -/
theorem wood_from {α : Type} {enc encO : α → List AV} {inn : α → List AObj} {w c : Nat} {s : SL α} (hx : ∀ x, (∀ t, t ∈ tags (inn x) → c ≤ t) → ∀ a, a ∈ enc x → From c a) (ht : ∀ t, t ∈ tags (s.wood w encO inn) → c ≤ t) : From c (s.av w enc) := by
  cases s with
  | nil => exact from_nsl c
  | mk t l =>
    have ht' : ∀ u, u ∈ t :: tags (l.flatMap inn) → c ≤ u := ht
    refine from_slc (ht' t (List.mem_cons_self ..)) fun row hr a ha => ?_
    obtain ⟨x, hxl, rfl⟩ := List.mem_map.1 hr
    refine hx x (fun u hu => ht' u (List.mem_cons_of_mem _ ?_)) a ha
    obtain ⟨o, ho, rfl⟩ := of_mem_tags hu
    exact mem_tags (List.mem_flatMap.2 ⟨x, hxl, ho⟩)
theorem tags_app (X Y : List AObj) : tags (X ++ Y) = tags X ++ tags Y := by simp [tags]
theorem job_from {c : Nat} (x : TJob) (h : ∀ t, t ∈ tags x.inn → c ≤ t) : ∀ a, a ∈ x.enc → From c a := fun a ha => by
  simp only [TJob.inn, tags_app, List.mem_append] at h
  simp only [TJob.enc, List.mem_cons, List.not_mem_nil, or_false] at ha
  rcases ha with rfl | rfl | rfl | rfl | rfl
  · simp
  · simp
  · exact flat_from TPair.flat fun t ht => h t (.inl ht)
  · exact flat_from TPair.flat fun t ht => h t (.inr ht)
  · simp
theorem worker_from {c : Nat} (x : TWorker) (h : ∀ t, t ∈ tags x.inn → c ≤ t) : ∀ a, a ∈ x.enc → From c a := fun a ha => by
  simp only [TWorker.inn, tags_app, List.mem_append] at h
  simp only [TWorker.enc, List.mem_cons, List.not_mem_nil, or_false] at ha
  rcases ha with rfl | rfl | rfl | rfl | rfl | rfl | rfl | rfl | rfl
  · simp
  · simp
  · simp
  · exact flat_from TPair.flat fun t ht => h t (.inl ht)
  · exact flat_from TPair.flat fun t ht => h t (.inr (.inl ht))
  · simp
  · simp
  · exact flat_from TFile.flat fun t ht => h t (.inr (.inr ht))
  · simp
theorem answer_from {c : Nat} (x : TAnswer) (h : ∀ t, t ∈ tags x.inn → c ≤ t) : ∀ a, a ∈ x.enc → From c a := fun a ha => by
  simp only [TAnswer.inn, tags_app, List.mem_append] at h
  simp only [TAnswer.enc, List.mem_cons, List.not_mem_nil, or_false] at ha
  rcases ha with rfl | rfl | rfl | rfl | rfl | rfl | rfl | rfl | rfl | rfl | rfl
  · simp
  · simp
  · exact flat_from TFile.flat fun t ht => h t (.inl ht)
  · simp
  · exact flat_from TPair.flat fun t ht => h t (.inr (.inl ht))
  · exact flat_from TPair.flat fun t ht => h t (.inr (.inr (.inl ht)))
  · simp
  · simp
  · exact flat_from THeader.flat fun t ht => h t (.inr (.inr (.inr ht)))
  · simp
  · simp
theorem server_from {c : Nat} {s : TServer} (h : ∀ t, t ∈ tags s.inn → c ≤ t) : From c (.agg s.enc) := from_agg fun a ha => by
  simp only [TServer.inn, tags_app, List.mem_append] at h
  simp only [TServer.enc, List.mem_cons, List.not_mem_nil, or_false] at ha
  rcases ha with rfl | rfl | rfl | rfl | rfl | rfl | rfl | rfl
  · exact flat_from TFile.flat fun t ht => h t (.inl ht)
  · exact line_from fun t ht => h t (.inr (.inl ht))
  · exact flat_from TSession.flat fun t ht => h t (.inr (.inr (.inl ht)))
  · exact wood_from job_from fun t ht => h t (.inr (.inr (.inr (.inl ht))))
  · exact wood_from worker_from fun t ht => h t (.inr (.inr (.inr (.inr (.inl ht)))))
  · exact wood_from answer_from fun t ht => h t (.inr (.inr (.inr (.inr (.inr ht)))))
  · simp
  · simp
theorem view_agg {S : List AObj} {l l' : List AV} (h : Views S l l') (hc : ∀ a, a ∈ l' → a.cell = true) : View S (.agg l) (.agg l') := .agg h.spec.1 (fun j a ha => hc a (List.mem_of_getElem? ha)) h.spec.2
theorem cell_rf {α : Type} (w : Nat) (s : SL α) : (s.ref w).cell = true := by cases s <;> rfl
theorem TServer.cellsO (s : TServer) : ∀ a, a ∈ s.encO → a.cell = true := fun a ha => by
  simp [TServer.encO] at ha
  rcases ha with rfl | rfl | rfl | rfl | rfl | rfl | rfl | rfl <;> first | rfl | exact cell_rf _ _
theorem TRequest.cellsO (s : TRequest) : ∀ a, a ∈ s.encO → a.cell = true := fun a ha => by
  simp [TRequest.encO] at ha
  rcases ha with rfl | rfl | rfl <;> first | rfl | exact cell_rf _ _
theorem TWorker.cellsO (s : TWorker) : ∀ a, a ∈ s.encO → a.cell = true := fun a ha => by
  simp [TWorker.encO] at ha
  rcases ha with rfl | rfl | rfl | rfl | rfl | rfl | rfl | rfl | rfl <;> first | rfl | exact cell_rf _ _
theorem TAnswer.cellsO (s : TAnswer) : ∀ a, a ∈ s.encO → a.cell = true := fun a ha => by
  simp [TAnswer.encO] at ha
  rcases ha with rfl | rfl | rfl | rfl | rfl | rfl | rfl | rfl | rfl | rfl | rfl <;> first | rfl | exact cell_rf _ _
/-- A server and a word, handed back as0 objects. -/
def SrvQ (ok : Bool) (s : TServer) (r : AV) (O : List AObj) : Prop := ∃ b : TServer, r = .tup [.agg b.encO, .bool ok] ∧ O = b.inn ∧ b.con = s.con
theorem srv_tr {P : Program} {f : Nat} {args : List AV} {ok : Bool} {s : TServer} (h : ∀ c, Con P f args [] c fun r O _ => SrvQ ok s r O) : Tr P f args fun _ r => ∃ b : TServer, r = .tup [.agg b.enc, .bool ok] ∧ b.con = s.con :=
  tr_of h fun c r O c' _ ⟨b, h1, h2, h3⟩ ht => ⟨.tup [.agg b.enc, .bool ok], by rw [h1]; exact view_tup (.cons (view_AServer (by rw [h2]; exact fun _ h => h)) (.cons (.refl _) .nil)), ⟨b, rfl, h3⟩, from_tup fun a ha => by
    rw [h2] at ht
    simp at ha
    rcases ha with rfl | rfl
    · exact server_from ht
    · exact from_bool _ _⟩
end A
end Go.Proofs.YtkcilmkienlnoaaGreatDoor

/-
  Ranges, and what is asked of all elements. No condition.
-/


namespace Go.Proofs.YtkcilmkienlnoaaGreatDoor
namespace A
set_option linter.unusedVariables false
set_option linter.unusedSimpArgs false
set_option maxRecDepth 100000

def inR (x lo hi : Int) : Bool := decide (lo ≤ x) && decide (x ≤ hi)

theorem l1In_fn (x lo hi : Int) : Fnc Tryz.prog 18 [.int .i64 x, .int .i64 lo, .int .i64 hi] (.bool (inR x lo hi)) := by
  refine fn_of c18 (by simp [F18]) fun c => ?_
  unfold F18 inR
  by_cases h1 : lo ≤ x <;> simp [h1] <;> exact fin_plain ⟨rfl, rfl⟩
theorem inRange_fn (x lo hi : Int) : Fnc Tryz.prog 29 [.int .i64 x, .int .i64 lo, .int .i64 hi] (.bool (inR x lo hi)) := by
  refine fn_of c29 (by simp [F29]) fun c => ?_
  unfold F29 inR
  by_cases h1 : lo ≤ x <;> simp [h1] <;> exact fin_plain ⟨rfl, rfl⟩
theorem inR_true {x lo hi : Int} (h : inR x lo hi = true) : lo ≤ x ∧ x ≤ hi := by simpa [inR] using h

theorem all_step {α : Type} {p : α → Bool} {l : List α} {i : Nat} (h : (l.take i).all p = true) (hi : i < l.length) (hx : p l[i] = true) : (l.take (i + 1)).all p = true := by
  rw [List.take_succ_eq_append_getElem hi, List.all_append, h]; simp [hx]
end A
end Go.Proofs.YtkcilmkienlnoaaGreatDoor

/-
  AreLines of the reference and of the program are the same plain function of the list of lines. No condition.
-/


namespace Go.Proofs.YtkcilmkienlnoaaGreatDoor
namespace A
set_option linter.unusedVariables false
set_option linter.unusedSimpArgs false
set_option maxRecDepth 100000

def lineOk (a : TLine) : Bool :=
  inR a.Seq 0 1000000000000 && inR a.Owner 0 8 && inR a.Version 0 1000000000000 && decide (a.Words.list.length ≤ 4100) && (decide (a.Seq.tmod 2 = 1) == decide (0 < a.Owner))

def areLines (l : List TLine) : Bool := l.all lineOk && decide (l.length ≤ 8)

theorem areLines_con {s t : SL TLine} (h : s.list.map TLine.con = t.list.map TLine.con) : areLines s.list = areLines t.list := by
  have e : ∀ l : List TLine, areLines l = areLines (l.map TLine.con) := fun l => by
    unfold areLines
    rw [List.all_map, List.length_map]
    rfl
  rw [e, e t.list, h]

end A
end Go.Proofs.YtkcilmkienlnoaaGreatDoor

/-
  Lines copied, and recovered in place, by the reference and by the program. No condition.
-/



namespace Go.Proofs.YtkcilmkienlnoaaGreatDoor
namespace A
set_option linter.unusedVariables false
set_option linter.unusedSimpArgs false
set_option maxRecDepth 100000

def inns (l : List TLine) : List AObj := l.flatMap TLine.inn
theorem wood_inns (t : Nat) (l : List TLine) : (SL.mk t l).wood 4 TLine.encO TLine.inn = ⟨false, t, 4, l.map TLine.encO⟩ :: inns l := rfl
theorem inns_app (l m : List TLine) : inns (l ++ m) = inns l ++ inns m := List.flatMap_append ..
theorem inns_one (x : TLine) : inns [x] = x.inn := by simp [inns]
theorem inns_cons (x : TLine) (l : List TLine) : inns (x :: l) = x.inn ++ inns l := List.flatMap_cons ..

theorem av_words (s : SL Int) : Av [] (s.av 1 encI) := by
  cases s with
  | nil => exact .nsl
  | mk t l =>
    exact .slc (by simp) fun r j x a hx ha => by
      obtain ⟨n, _, rfl⟩ := List.mem_map.1 (List.mem_of_getElem? hx)
      have := List.mem_of_getElem? ha
      simp [encI] at this; subst this; exact .int
theorem av_line (x : TLine) : ∀ a, a ∈ x.enc → Av [] a := fun a ha => by
  simp [TLine.enc] at ha
  rcases ha with rfl | rfl | rfl | rfl
  · exact .int
  · exact .int
  · exact .int
  · exact av_words _

/-- Copied so far: new lines, then the old ones. -/
def cpRows (ys l : List TLine) (i : Nat) : List (List AV) := ys.map TLine.encO ++ (l.drop i).map TLine.enc
theorem cpRows_len {ys l : List TLine} {i : Nat} (h : ys.length = i) (hi : i ≤ l.length) : (cpRows ys l i).length = l.length := by simp [cpRows, h]; omega
theorem cpRows_get {ys l : List TLine} {i : Nat} (h : ys.length = i) (hi : i < l.length) : (cpRows ys l i)[i]? = some l[i].enc := by
  unfold cpRows
  rw [List.getElem?_append_right (by simp; omega), List.length_map, h, Nat.sub_self, List.drop_eq_getElem_cons hi]; rfl
theorem cpRows_set {ys l : List TLine} {i : Nat} (h : ys.length = i) (hi : i < l.length) (y : TLine) : (cpRows ys l i).set i y.encO = cpRows (ys ++ [y]) l (i + 1) := by
  unfold cpRows
  rw [List.set_append_right _ _ (by simp; omega), List.length_map, h, Nat.sub_self, List.drop_eq_getElem_cons hi, List.map_cons, List.set_cons_zero]
  simp
theorem cpRows_zero (l : List TLine) : cpRows [] l 0 = l.map TLine.enc := by simp [cpRows]
theorem cpRows_all {ys l : List TLine} : cpRows ys l l.length = ys.map TLine.encO := by simp [cpRows]

theorem impl_copyO {s : SL TLine} (hn : s.list.length ≤ 1048576) (hz : ∀ x, x ∈ s.list → x.Words.list.length ≤ 1048576) (c : Nat) :
    Con Tryz.prog 71 [s.av 4 TLine.enc] [] c fun r O _ => ∃ b : SL TLine, r = b.ref 4 ∧ O = b.wood 4 TLine.encO TLine.inn ∧ b.list.map TLine.con = s.list.map TLine.con := by
  refine con_of c71 (by simp [F71]) ?_
  unfold F71
  simp
  refine call_new (clone_con (b := 48) (z := [.int .i64 0, .int .i64 0, .int .i64 0, .nsl]) c102 (by omega) (by unfold mx; omega) _) (Views.refl _ _) fun r O c1 hc ⟨x, hr, hO, hx⟩ _ _ => ?_
  subst hr
  refine ⟨_, .refl _, free_ref _ _ _, fun o ho => ?_, ?_⟩
  · subst hO
    cases x with
    | nil => cases ho
    | mk t l =>
      rw [flat_wood] at ho
      simp only [List.mem_singleton] at ho
      subst ho
      exact avRows_of fun row hr a ha => by
        obtain ⟨y, _, rfl⟩ := List.mem_map.1 hr
        exact av_line y a ha
  simp
  cases x with
  | nil =>
    have h0 : s.list = [] := hx.symm
    have hO' : O = [] := hO
    subst hO'
    refine loop_drop 0 (fun i e H c' => e 3 = .nsl ∧ e 9 = .int .i64 0 ∧ e 10 = .int .i64 0 ∧ H = []) ⟨rfl, by simp [h0], rfl, rfl⟩ ?_
    intro i e H c' hi ⟨e3, e9, e10, hH⟩ N hN
    subst hH
    simp [e3, e9, e10]
    exact fin_all ⟨.nil, rfl, rfl, by simp [h0]⟩
  | mk t l =>
    simp only [SL.list_mk] at hx
    subst hx
    rw [flat_wood] at hO
    subst hO
    refine loop_drop s.list.length (fun i e H c' => e 3 = .ref 0 t 4 s.list.length ∧ e 8 = s.av 4 TLine.enc ∧ e 9 = .int .i64 s.list.length ∧ e 10 = .int .i64 i ∧ ∃ ys : List TLine, ys.length = i ∧ ys.map TLine.con = (s.list.take i).map TLine.con ∧ H = ⟨false, t, 4, cpRows ys s.list i⟩ :: inns ys) ⟨rfl, rfl, rfl, rfl, [], rfl, rfl, by rw [cpRows_zero]; rfl⟩ ?_
    intro i e H c' hi ⟨e3, e8, e9, e10, ys, hy, hcon, hH⟩ N hN
    subst hH
    simp [e3, e8, e9, e10]
    refine ⟨fun h => ⟨s.list[i], List.getElem?_eq_getElem h, ?_⟩, fun h => ?_⟩
    · have hlen := cpRows_len hy hi
      have hget := cpRows_get hy h
      have hset := cpRows_set hy h
      have hw := hz _ (List.getElem_mem h)
      have htk : (s.list.take (i + 1)).map TLine.con = (s.list.take i).map TLine.con ++ [s.list[i].con] := by rw [List.take_succ_eq_append_getElem h, List.map_append]; rfl
      generalize s.list[i] = x at hget hset hw htk
      simp [e3, e8, e9, e10, h]
      refine call_new (cloneIO hw _) (Views.refl _ _) fun r O c2 hc2 ⟨w, hr, hO, hwl⟩ _ _ => ?_
      subst hr; subst hO
      refine ⟨_, .refl _, free_ref _ _ _, fun o ho => flat_free encI_flat _ _ o ho _, ?_⟩
      simp [e3, e8, e9, e10, h]
      refine ⟨_, hget, ?_⟩
      simp [hlen, putA, TLine.enc]
      refine hN _ _ (⟨false, t, 4, cpRows (ys ++ [⟨x.Seq, x.Owner, x.Version, w⟩]) s.list (i + 1)⟩ :: inns (ys ++ [⟨x.Seq, x.Owner, x.Version, w⟩])) _ h ?_ ⟨by simp [upd, e3], by simp [upd, e8], by simp [upd, e9], by simp [upd]; exact step64 (by unfold mx; omega) h, ys ++ [⟨x.Seq, x.Owner, x.Version, w⟩], by simp [hy], ?_, rfl⟩
      · rw [inns_app, inns_one, ← hset]
        exact (List.Sublist.append (List.Sublist.refl _) ((List.Sublist.refl _).cons _)).cons_cons _
      · rw [List.map_append, hcon, htk]
        simp [TLine.con, SL.pcon, hwl]
    · have h1 : i = s.list.length := by omega
      subst h1
      refine fin_all ⟨.mk t ys, by simp [SL.ref, hy], by rw [wood_inns, cpRows_all], ?_⟩
      simpa using hcon

/-- Rows whose inner slices are named by their places. -/
def encX (k : Nat) (x : TLine) : List AV := [.int .i64 x.Seq, .int .i64 x.Owner, .int .i64 x.Version, x.Words.at_ k 1]
def rowsX (ks : List (Nat × TLine)) : List (List AV) := ks.map fun p => encX p.1 p.2
theorem renX (t : Nat) (ks : List (Nat × TLine)) : RenO [] ⟨false, t, 4, rowsX ks⟩ ⟨false, t, 4, (ks.map (·.2)).map TLine.encO⟩ where
  mp := rfl
  tag := rfl
  w := rfl
  len := by simp [rowsX]
  maps h := by cases h
  row r x x' h1 h2 := by
    simp only [rowsX, List.getElem?_map, Option.map_eq_some_iff] at h1 h2
    obtain ⟨p, hp, rfl⟩ := h1
    obtain ⟨y, ⟨q, hq, rfl⟩, rfl⟩ := h2
    rw [hp] at hq; cases hq
    refine ⟨rfl, fun j a a' h3 h4 => ?_⟩
    match j, h3, h4 with
    | 0, h3, h4 => simp [encX] at h3; simp [TLine.encO] at h4; exact .inl (by rw [← h3, ← h4])
    | 1, h3, h4 => simp [encX] at h3; simp [TLine.encO] at h4; exact .inl (by rw [← h3, ← h4])
    | 2, h3, h4 => simp [encX] at h3; simp [TLine.encO] at h4; exact .inl (by rw [← h3, ← h4])
    | 3, h3, h4 =>
      simp [encX] at h3; simp [TLine.encO] at h4
      subst h3; subst h4
      exact .inr ⟨cell_ref _ _, view_at' _ _ _ _⟩
    | j + 4, h3, h4 => simp [encX] at h3

theorem spec_copyM {s : SL TLine} (hn : s.list.length ≤ 1048576) (hz : ∀ x, x ∈ s.list → x.Words.list.length ≤ 1048576) (c : Nat) :
    Con Tryz.prog 58 [s.av 4 TLine.enc] [] c fun r O _ => ∃ b : SL TLine, r = b.ref 4 ∧ O = b.wood 4 TLine.encO TLine.inn ∧ b.list.map TLine.con = s.list.map TLine.con ∧ ∃ t, b = .mk t b.list := by
  refine con_of c58 (by simp [F58]) ?_
  unfold F58
  simp
  refine loop_drop s.list.length (fun i e H c' => e 0 = s.av 4 TLine.enc ∧ e 4 = .int .i64 i ∧ ∃ (t : Nat) (ks : List (Nat × TLine)), e 3 = .ref 0 t 4 i ∧ ks.length = i ∧ (ks.map (·.2)).map TLine.con = (s.list.take i).map TLine.con ∧ H = ⟨false, t, 4, rowsX ks⟩ :: inns (ks.map (·.2))) ⟨rfl, rfl, _, [], rfl, rfl, rfl, rfl⟩ ?_
  intro i e H c' hi ⟨e0, e4, t, ks, e3, hy, hcon, hH⟩ N hN
  subst hH
  have hrl : (rowsX ks).length = i := by simp [rowsX, hy]
  generalize hys : ks.map (·.2) = ys at hcon
  simp [e0, e3, e4]
  refine ⟨fun h => ⟨s.list[i], List.getElem?_eq_getElem h, ?_⟩, fun h => ?_⟩
  · have hw := hz _ (List.getElem_mem h)
    have hget : s.list[i]? = some s.list[i] := List.getElem?_eq_getElem h
    have htk : (s.list.take (i + 1)).map TLine.con = (s.list.take i).map TLine.con ++ [s.list[i].con] := by rw [List.take_succ_eq_append_getElem h, List.map_append]; rfl
    generalize s.list[i] = x at hget hw htk
    simp [e0, e3, e4, h]
    refine ⟨_, hget, ?_⟩
    have m1 : x.Words.list.length * 8 ≤ 140737488355328 := by omega
    have m2 : x.Words.list.length ≤ mx := by unfold mx; omega
    have m3 : (i + 1) * 48 ≤ 140737488355328 := by omega
    have m4 : i + 1 ≤ mx := by unfold mx; omega
    simp [e0, e3, e4, h, m1, m2, m3, m4, hrl, putA, TLine.enc]
    refine hN _ _ (⟨false, c' + 1 + 1 + 1 + 1, 4, rowsX (ks ++ [((inns ys).length + 1 + 1, TLine.mk x.Seq x.Owner x.Version (.mk (c' + 1 + 1) x.Words.list))])⟩ :: inns ((ks ++ [((inns ys).length + 1 + 1, TLine.mk x.Seq x.Owner x.Version (.mk (c' + 1 + 1) x.Words.list))]).map (·.2))) _ h ?_
      ⟨by simp [upd, e0], by simp [upd]; exact step64 (by unfold mx; omega) h, c' + 1 + 1 + 1 + 1, _, by simp [upd], by simp [hy], ?_, rfl⟩
    · rw [List.map_append, inns_app, hys]
      have e1 : rowsX (ks ++ [((inns ys).length + 1 + 1, TLine.mk x.Seq x.Owner x.Version (.mk (c' + 1 + 1) x.Words.list))]) = rowsX ks ++ [[.int .i64 x.Seq, .int .i64 x.Owner, .int .i64 x.Version, .ref ((inns ys).length + 1 + 1) (c' + 1 + 1) 1 x.Words.list.length]] := by
        simp [rowsX, encX, SL.at_]
      rw [e1]
      refine List.Sublist.cons_cons _ (List.Sublist.append (List.Sublist.refl _) ?_)
      simp only [List.map_cons, List.map_nil, inns_one, TLine.inn, flat_wood]
      exact ((List.nil_sublist _).cons_cons _).cons _
    · rw [List.map_append, List.map_append, hys, hcon, htk]
      simp [TLine.con, SL.pcon]
  · have h1 : i = s.list.length := by omega
    subst h1
    refine fin_ren (List.Sublist.refl _) (.cons (renX t ks) (.refl _ _)) (.refl _) ⟨.mk t ys, ?_, ?_, ?_, t, rfl⟩
    · subst hys; simp [SL.ref, hy]
    · rw [wood_inns, hys]
    · simpa using hcon

theorem spec_copyO {s : SL TLine} (hn : s.list.length ≤ 1048576) (hz : ∀ x, x ∈ s.list → x.Words.list.length ≤ 1048576) (c : Nat) :
    Con Tryz.prog 58 [s.av 4 TLine.enc] [] c fun r O _ => ∃ b : SL TLine, r = b.ref 4 ∧ O = b.wood 4 TLine.encO TLine.inn ∧ b.list.map TLine.con = s.list.map TLine.con :=
  (spec_copyM hn hz c).mono fun r H' c' _ ⟨b, h1, h2, h3, _⟩ => ⟨b, h1, h2, h3⟩

/-- A line, recovered. -/
def recL (owner : Int) (x : TLine) : TLine := if x.Owner = owner then ⟨x.Seq + 1, 0, 0, .nil⟩ else x
theorem mixM_flat {f : TLine → TLine} {l : List TLine} {i : Nat} (h : i < l.length) : inns (mixM f l i) = inns ((l.take i).map f) ++ (l[i].inn ++ inns (l.drop (i + 1))) := by
  unfold mixM
  rw [List.drop_eq_getElem_cons h, inns_app, inns_cons]
theorem mixM_flat' {f : TLine → TLine} {l : List TLine} {i : Nat} (h : i < l.length) : inns (mixM f l (i + 1)) = inns ((l.take i).map f) ++ ((f l[i]).inn ++ inns (l.drop (i + 1))) := by
  unfold mixM
  rw [List.take_succ_eq_append_getElem h, List.map_append, inns_app, inns_app]
  simp [inns_one]

theorem areLines_seq {l : List TLine} (h : areLines l = true) : ∀ x, x ∈ l → 0 ≤ x.Seq ∧ x.Seq ≤ 1000000000000 := fun x hx => by
  unfold areLines at h
  simp only [Bool.and_eq_true, List.all_eq_true] at h
  have := h.1 x hx
  unfold lineOk at this
  simp only [Bool.and_eq_true] at this
  exact inR_true this.1.1.1.1
theorem renSet {t w i : Nat} {rows : List (List AV)} {row row' : List AV} (hl : row'.length = row.length) (h : ∀ (j : Nat) (a a' : AV), row[j]? = some a → row'[j]? = some a' → a' = a ∨ (a'.cell = true ∧ View [] a a')) :
    RenO [] ⟨false, t, w, rows.set i row⟩ ⟨false, t, w, rows.set i row'⟩ where
  mp := rfl
  tag := rfl
  w := rfl
  len := by simp
  maps h := by cases h
  row r x x' h1 h2 := by
    by_cases hr : i = r
    · subst hr
      rw [List.getElem?_set_self'] at h1 h2
      simp only [Option.map_eq_map, Option.map_eq_some_iff, Function.const] at h1 h2
      obtain ⟨_, _, rfl⟩ := h1
      obtain ⟨_, _, rfl⟩ := h2
      exact ⟨hl, h⟩
    · rw [List.getElem?_set_ne hr] at h1 h2
      rw [h1] at h2; cases h2
      exact ⟨rfl, fun j a a' h3 h4 => by rw [h3] at h4; cases h4; exact .inl rfl⟩

theorem inns_at {l : List TLine} {i : Nat} (h : i < l.length) : inns l = inns (l.take i) ++ (l[i].inn ++ inns (l.drop (i + 1))) := by
  rw [← inns_cons, ← List.drop_eq_getElem_cons h, ← inns_app, List.take_append_drop]
theorem inns_set {l : List TLine} {i : Nat} (h : i < l.length) (z : TLine) : inns (l.set i z) = inns (l.take i) ++ (z.inn ++ inns (l.drop (i + 1))) := by
  rw [List.set_eq_take_append_cons_drop, if_pos h, inns_app, inns_cons]

end A
end Go.Proofs.YtkcilmkienlnoaaGreatDoor

/-
  The program's copies of a server and its parts, kept as0 objects. No condition.
-/



namespace Go.Proofs.YtkcilmkienlnoaaGreatDoor
namespace A
set_option linter.unusedVariables false
set_option linter.unusedSimpArgs false
set_option maxRecDepth 100000

theorem clonePO {s : SL TPair} (hn : s.list.length ≤ 1048576) (c : Nat) : Con Tryz.prog 104 [s.av 2 TPair.enc] [] c fun r O _ => ∃ x : SL TPair, r = x.ref 2 ∧ O = x.wood 2 TPair.enc noInn ∧ x.list = s.list :=
  clone_con (b := 32) (z := [.str [], .str []]) c104 (by omega) (by unfold mx; omega) c
theorem cloneFO {s : SL TFile} (hn : s.list.length ≤ 1048576) (c : Nat) : Con Tryz.prog 70 [s.av 3 TFile.enc] [] c fun r O _ => ∃ x : SL TFile, r = x.ref 3 ∧ O = x.wood 3 TFile.enc noInn ∧ x.list = s.list :=
  clone_con (b := 40) (z := [.str [], .str [], .int .i64 0]) c70 (by omega) (by unfold mx; omega) c
theorem cloneHO {s : SL THeader} (hn : s.list.length ≤ 1048576) (c : Nat) : Con Tryz.prog 75 [s.av 2 THeader.enc] [] c fun r O _ => ∃ x : SL THeader, r = x.ref 2 ∧ O = x.wood 2 THeader.enc noInn ∧ x.list = s.list :=
  clone_con (b := 32) (z := [.str [], .str []]) c75 (by omega) (by unfold mx; omega) c
theorem cloneSO' {s : SL TSession} (hn : s.list.length ≤ 1048576) (c : Nat) : Con Tryz.prog 72 [s.av 4 TSession.enc] [] c fun r O _ => ∃ x : SL TSession, r = x.ref 4 ∧ O = x.wood 4 TSession.enc noInn ∧ x.list = s.list :=
  clone_con (b := 48) (z := [.str [], .str [], .int .i64 0, .int .i64 0]) c72 (by omega) (by unfold mx; omega) c

def SmR (x : TRequest) : Prop := x.Query.list.length ≤ 1048576 ∧ x.Cookies.list.length ≤ 1048576
theorem impl_cpReqO {x : TRequest} (h : SmR x) (c : Nat) : Con Tryz.prog 74 [.agg x.enc] [] c fun r O _ => ∃ b : TRequest, r = .agg b.encO ∧ O = b.inn ∧ b.con = x.con := by
  refine con_of c74 (by simp [F74]) ?_
  unfold F74
  simp [putA]
  refine call_new (clonePO h.1 _) (Views.refl _ _) fun r1 O1 c1 hc1 ⟨b1, hr, hO, q1⟩ _ _ => ?_
  subst hr; subst hO
  refine ⟨_, .refl _, free_ref _ _ _, fun o ho => flat_free TPair.flat _ _ o ho _, ?_⟩
  simp [putA]
  refine call_new (clonePO h.2 _) (Views.refl _ _) fun r2 O2 c2 hc2 ⟨b2, hr, hO, q2⟩ _ _ => ?_
  subst hr; subst hO
  refine ⟨_, .refl _, free_ref _ _ _, fun o ho => flat_free TPair.flat _ _ o ho _, ?_⟩
  simp [putA]
  refine fin_sub (Hk := b1.wood 2 TPair.enc noInn ++ (b2.wood 2 TPair.enc noInn)) ?_ (.refl _) ⟨⟨x.Path, b1, b2⟩, rfl, rfl, by simp [TRequest.con, SL.con, SL.pcon, q1, q2]⟩
  exact ((List.Sublist.refl _).cons _).cons _
theorem impl_cpJobO {x : TJob} (h : SmR x.Request) (c : Nat) : Con Tryz.prog 73 [.agg x.enc] [] c fun r O _ => ∃ b : TJob, r = .agg b.encO ∧ O = b.inn ∧ b.con = x.con := by
  refine con_of c73 (by simp [F73]) ?_
  unfold F73
  simp [putA]
  refine call_new (impl_cpReqO h _) (Views.refl _ _) fun r1 O1 c1 hc1 ⟨b1, hr, hO, q1⟩ _ _ => ?_
  subst hr; subst hO
  refine ⟨_, .refl _, free_agg (TRequest.freeO b1) _, fun o ho => TRequest.freeI b1 o ho _, ?_⟩
  simp [putA]
  refine fin_sub (Hk := b1.inn) ?_ (.refl _) ⟨⟨x.Id, b1, x.Session⟩, rfl, rfl, by simp [TJob.con, SL.con, SL.pcon, q1]⟩
  exact ((List.Sublist.refl _).cons _).cons _

@[simp] theorem getW_midX {α : Type} (A T M : List α) (X W : α) (K : α → Prop) : getW (A ++ X :: (T ++ W :: M)) (A.length + (T.length + 1)) K = K W :=
  getW_of (by rw [List.getElem?_append_right (by omega), Nat.add_sub_cancel_left, List.getElem?_cons_succ, List.getElem?_append_right (Nat.le_refl _)]; simp) K
@[simp] theorem set_midX {α : Type} (A T M : List α) (X W Y : α) : (A ++ X :: (T ++ W :: M)).set (A.length + (T.length + 1)) Y = A ++ X :: (T ++ Y :: M) := by
  rw [List.set_append_right _ _ (by omega), Nat.add_sub_cancel_left, List.set_cons_succ, List.set_append_right _ _ (Nat.le_refl _), Nat.sub_self, List.set_cons_zero]
/-- A list that grows: not begun, or an object among others. -/
def Live {α : Type} (w : Nat) (encO : α → List AV) (inn : α → List AObj) (ys : List α) (v : AV) (T X : List AObj) : Prop :=
  ∃ G : List AObj, (ys = [] ∧ v = .nsl ∧ T.Perm (X ++ G)) ∨ ∃ (P B : List AObj) (t : Nat), v = .ref (P.length + 3) t w ys.length ∧ T = P ++ ⟨false, t, w, ys.map encO⟩ :: B ∧ (P ++ B).Perm (ys.flatMap inn ++ (X ++ G))
@[simp] theorem getW_mid3 {α : Type} (A B I M : List α) (X Y W : α) (K : α → Prop) : getW (A ++ X :: (B ++ Y :: (I ++ W :: M))) (A.length + (B.length + (I.length + 1) + 1)) K = K W := by
  have e : A ++ X :: (B ++ Y :: (I ++ W :: M)) = (A ++ X :: (B ++ Y :: I)) ++ W :: M := by simp
  have e2 : A.length + (B.length + (I.length + 1) + 1) = (A ++ X :: (B ++ Y :: I)).length := by simp
  rw [e, e2, getW_len]
@[simp] theorem getW_t2 {α : Type} (T I J M : List α) (Y W : α) (K : α → Prop) : getW (T ++ Y :: (I ++ (J ++ W :: M))) (T.length + (I.length + J.length + 1)) K = K W := by
  have e : T ++ Y :: (I ++ (J ++ W :: M)) = (T ++ Y :: (I ++ J)) ++ W :: M := by simp
  have e2 : T.length + (I.length + J.length + 1) = (T ++ Y :: (I ++ J)).length := by simp
  rw [e, e2, getW_len]
@[simp] theorem getW_m2 {α : Type} (P B I J M : List α) (X Y W : α) (K : α → Prop) : getW (P ++ X :: (B ++ Y :: (I ++ (J ++ W :: M)))) (P.length + (B.length + (I.length + J.length + 1) + 1)) K = K W := by
  have e : P ++ X :: (B ++ Y :: (I ++ (J ++ W :: M))) = (P ++ X :: (B ++ Y :: (I ++ J))) ++ W :: M := by simp
  have e2 : P.length + (B.length + (I.length + J.length + 1) + 1) = (P ++ X :: (B ++ Y :: (I ++ J))).length := by simp
  rw [e, e2, getW_len]
@[simp] theorem getW_t3 {α : Type} (T I J L M : List α) (Y W : α) (K : α → Prop) : getW (T ++ Y :: (I ++ (J ++ (L ++ W :: M)))) (T.length + (I.length + (J.length + L.length) + 1)) K = K W := by
  have e : T ++ Y :: (I ++ (J ++ (L ++ W :: M))) = (T ++ Y :: (I ++ (J ++ L))) ++ W :: M := by simp
  have e2 : T.length + (I.length + (J.length + L.length) + 1) = (T ++ Y :: (I ++ (J ++ L))).length := by simp
  rw [e, e2, getW_len]
@[simp] theorem getW_m3 {α : Type} (P B I J L M : List α) (X Y W : α) (K : α → Prop) : getW (P ++ X :: (B ++ Y :: (I ++ (J ++ (L ++ W :: M))))) (P.length + (B.length + (I.length + (J.length + L.length) + 1) + 1)) K = K W := by
  have e : P ++ X :: (B ++ Y :: (I ++ (J ++ (L ++ W :: M)))) = (P ++ X :: (B ++ Y :: (I ++ (J ++ L)))) ++ W :: M := by simp
  have e2 : P.length + (B.length + (I.length + (J.length + L.length) + 1) + 1) = (P ++ X :: (B ++ Y :: (I ++ (J ++ L)))).length := by simp
  rw [e, e2, getW_len]
theorem Live.step0 {α : Type} {w : Nat} {encO : α → List AV} {inn : α → List AObj} {T X I G : List AObj} {g1 g2 : AObj} {b : α} {t : Nat} (h : T.Perm (X ++ G)) (hI : I.Perm (inn b)) :
    Live w encO inn [b] (.ref (T.length + (I.length + 1 + 1) + 1 + 1 + 1) t w 1) (T ++ g1 :: (I ++ [g2, ⟨false, t, w, [encO b]⟩])) X := by
  refine ⟨g1 :: g2 :: G, .inr ⟨T ++ g1 :: (I ++ [g2]), [], t, by simp, by simp, perm_cnt fun p => ?_⟩⟩
  have h1 := h.countP_eq p
  have h2 := hI.countP_eq p
  simp only [List.countP_append, List.countP_cons, List.countP_nil, List.flatMap_cons, List.flatMap_nil, List.append_nil] at h1 h2 ⊢
  omega
theorem Live.step1 {α : Type} {w : Nat} {encO : α → List AV} {inn : α → List AObj} {P B X I G : List AObj} {g1 g2 : AObj} {ys : List α} {b : α} {t n : Nat} (h : (P ++ B).Perm (ys.flatMap inn ++ (X ++ G))) (hI : I.Perm (inn b)) (hn : ys.length = n) :
    Live w encO inn (ys ++ [b]) (.ref (P.length + 3) t w (n + 1)) (P ++ ⟨false, t, w, ys.map encO ++ [encO b]⟩ :: (B ++ g1 :: (I ++ [g2]))) X := by
  refine ⟨g1 :: g2 :: G, .inr ⟨P, B ++ g1 :: (I ++ [g2]), t, by simp [hn], by simp, perm_cnt fun p => ?_⟩⟩
  have h1 := h.countP_eq p
  have h2 := hI.countP_eq p
  simp only [List.countP_append, List.countP_cons, List.countP_nil, List.flatMap_cons, List.flatMap_nil, List.append_nil, List.flatMap_append] at h1 h2 ⊢
  omega
theorem Live.two0 {α : Type} {w : Nat} {encO : α → List AV} {inn : α → List AObj} {T X G : List AObj} {g1 g2 : AObj} {b : α} {t n : Nat} (I J : List AObj) (h : T.Perm (X ++ G)) (hI : (I ++ J).Perm (inn b)) (hn : n = T.length + I.length + J.length + 5) :
    Live w encO inn [b] (.ref n t w 1) (T ++ g1 :: (I ++ (J ++ [g2, ⟨false, t, w, [encO b]⟩]))) X := by
  refine ⟨g1 :: g2 :: G, .inr ⟨T ++ g1 :: (I ++ (J ++ [g2])), [], t, by subst hn; simp; omega, by simp, perm_cnt fun p => ?_⟩⟩
  have h1 := h.countP_eq p
  have h2 := hI.countP_eq p
  simp only [List.countP_append, List.countP_cons, List.countP_nil, List.flatMap_cons, List.flatMap_nil, List.append_nil, List.flatMap_append] at h1 h2 ⊢
  omega
theorem Live.two1 {α : Type} {w : Nat} {encO : α → List AV} {inn : α → List AObj} {P B X G : List AObj} {g1 g2 : AObj} {ys : List α} {b : α} {t n : Nat} (I J : List AObj) (h : (P ++ B).Perm (ys.flatMap inn ++ (X ++ G))) (hI : (I ++ J).Perm (inn b)) (hn : ys.length = n) :
    Live w encO inn (ys ++ [b]) (.ref (P.length + 3) t w (n + 1)) (P ++ ⟨false, t, w, ys.map encO ++ [encO b]⟩ :: (B ++ g1 :: (I ++ (J ++ [g2])))) X := by
  refine ⟨g1 :: g2 :: G, .inr ⟨P, B ++ g1 :: (I ++ (J ++ [g2])), t, by simp [hn], by simp, perm_cnt fun p => ?_⟩⟩
  have h1 := h.countP_eq p
  have h2 := hI.countP_eq p
  simp only [List.countP_append, List.countP_cons, List.countP_nil, List.flatMap_cons, List.flatMap_nil, List.append_nil, List.flatMap_append] at h1 h2 ⊢
  omega
theorem Live.three0 {α : Type} {w : Nat} {encO : α → List AV} {inn : α → List AObj} {T X G : List AObj} {g1 g2 : AObj} {b : α} {t n : Nat} (I J L : List AObj) (h : T.Perm (X ++ G)) (hI : (I ++ (J ++ L)).Perm (inn b)) (hn : n = T.length + I.length + J.length + L.length + 5) :
    Live w encO inn [b] (.ref n t w 1) (T ++ g1 :: (I ++ (J ++ (L ++ [g2, ⟨false, t, w, [encO b]⟩])))) X := by
  refine ⟨g1 :: g2 :: G, .inr ⟨T ++ g1 :: (I ++ (J ++ (L ++ [g2]))), [], t, by subst hn; simp; omega, by simp, perm_cnt fun p => ?_⟩⟩
  have h1 := h.countP_eq p
  have h2 := hI.countP_eq p
  simp only [List.countP_append, List.countP_cons, List.countP_nil, List.flatMap_cons, List.flatMap_nil, List.append_nil, List.flatMap_append] at h1 h2 ⊢
  omega
theorem Live.three1 {α : Type} {w : Nat} {encO : α → List AV} {inn : α → List AObj} {P B X G : List AObj} {g1 g2 : AObj} {ys : List α} {b : α} {t n : Nat} (I J L : List AObj) (h : (P ++ B).Perm (ys.flatMap inn ++ (X ++ G))) (hI : (I ++ (J ++ L)).Perm (inn b)) (hn : ys.length = n) :
    Live w encO inn (ys ++ [b]) (.ref (P.length + 3) t w (n + 1)) (P ++ ⟨false, t, w, ys.map encO ++ [encO b]⟩ :: (B ++ g1 :: (I ++ (J ++ (L ++ [g2]))))) X := by
  refine ⟨g1 :: g2 :: G, .inr ⟨P, B ++ g1 :: (I ++ (J ++ (L ++ [g2]))), t, by simp [hn], by simp, perm_cnt fun p => ?_⟩⟩
  have h1 := h.countP_eq p
  have h2 := hI.countP_eq p
  simp only [List.countP_append, List.countP_cons, List.countP_nil, List.flatMap_cons, List.flatMap_nil, List.append_nil, List.flatMap_append] at h1 h2 ⊢
  omega
theorem Live.zero {α : Type} (w : Nat) (encO : α → List AV) (inn : α → List AObj) (T : List AObj) : Live w encO inn [] .nsl T T := ⟨[], .inl ⟨rfl, rfl, by simp⟩⟩
theorem Live.fin {α : Type} {w : Nat} {encO : α → List AV} {inn : α → List AObj} {ys : List α} {v : AV} {T X : List AObj} (h : Live w encO inn ys v T X) : ∃ (s : SL α) (G : List AObj), s.list = ys ∧ View [] v (s.ref w) ∧ T.Perm (s.wood w encO inn ++ (X ++ G)) := by
  obtain ⟨G, ⟨h1, h2, h3⟩ | ⟨P, B, t, h1, h2, h3⟩⟩ := h
  · subst h1; subst h2
    exact ⟨.nil, G, rfl, .refl _, by simpa [SL.wood] using h3⟩
  · subst h1; subst h2
    refine ⟨.mk t ys, G, rfl, .name, ?_⟩
    show (P ++ _ :: B).Perm (_ :: ys.flatMap inn ++ (X ++ G))
    exact List.perm_middle.trans (List.Perm.cons _ h3)

def SmSrv (s : TServer) : Prop := s.Files.list.length ≤ 1048576 ∧ s.Lines.list.length ≤ 1048576 ∧ (∀ x, x ∈ s.Lines.list → x.Words.list.length ≤ 1048576) ∧ s.Sessions.list.length ≤ 1048576 ∧ s.Queue.list.length ≤ 1048576 ∧ (∀ x, x ∈ s.Queue.list → SmR x.Request) ∧
  s.Workers.list.length ≤ 1048576 ∧ (∀ x, x ∈ s.Workers.list → SmR x.Job.Request ∧ x.Files.list.length ≤ 1048576) ∧ s.Done.list.length ≤ 1048576 ∧ ∀ x, x ∈ s.Done.list → SmR x.Request ∧ x.Files.list.length ≤ 1048576 ∧ x.Response.Headers.list.length ≤ 1048576
theorem impl_cpSrvK {s : TServer} (hs : SmSrv s) (c : Nat) : Con Tryz.prog 28 [.agg s.enc] [] c fun r O _ => ∃ (b : TServer) (v1 v2 v3 : AV) (U T G : List AObj), r = .agg [b.Files.ref 3, b.Lines.ref 4, b.Sessions.ref 4, v1, v2, v3, .int .i64 b.Next, .int .i64 b.Now] ∧ View [] v1 (b.Queue.ref 5) ∧ View [] v2 (b.Workers.ref 9) ∧ View [] v3 (b.Done.ref 11) ∧
    O = U ++ T ∧ T.Perm (b.inn ++ G) ∧ b.con = s.con := by
  obtain ⟨z1, z2, z3, z4, z5, z6, z7, z8, z9, z10⟩ := hs
  refine con_of c28 (by simp [F28]) ?_
  unfold F28
  simp [putA]
  refine call_new (cloneFO z1 _) (Views.refl _ _) fun r1 O1 c1 hc1 ⟨bF, hr, hO, qF⟩ _ _ => ?_
  subst hr; subst hO
  refine ⟨_, .refl _, free_ref _ _ _, fun o ho => flat_free TFile.flat _ _ o ho _, ?_⟩
  simp [putA]
  refine call_new (impl_copyO z2 z3 _) (Views.refl _ _) fun r1 O1 c2 hc2 ⟨bL, hr, hO, qL⟩ _ _ => ?_
  subst hr; subst hO
  refine ⟨_, .refl _, free_ref _ _ _, fun o ho => free_wood TLine.freeO TLine.freeI _ o ho _, ?_⟩
  simp [putA]
  refine call_new (cloneSO' z4 _) (Views.refl _ _) fun r1 O1 c3 hc3 ⟨bS, hr, hO, qS⟩ _ _ => ?_
  subst hr; subst hO
  refine ⟨_, .refl _, free_ref _ _ _, fun o ho => flat_free TSession.flat _ _ o ho _, ?_⟩
  simp [putA, TServer.enc]
  generalize hW : bF.wood 3 TFile.enc noInn ++ (bL.wood 4 TLine.encO TLine.inn ++ bS.wood 4 TSession.enc noInn) = W
  refine loop_drop s.Queue.list.length (fun i e H c' => e 1 = .ptr 0 c 8 0 0 ∧ e 2 = .ptr 1 (c + 1) 8 0 0 ∧ e 3 = .ptr 2 (c + 1 + 1) 8 0 0 ∧ e 25 = s.Queue.av 5 TJob.enc ∧ e 26 = .int .i64 s.Queue.list.length ∧ e 27 = .int .i64 i ∧ ∃ (ys : List TJob) (v : AV) (T : List AObj), ys.length = i ∧ ys.map TJob.con = (s.Queue.list.take i).map TJob.con ∧ Live 5 TJob.encO TJob.inn ys v T W ∧
    H = ⟨false, c, 8, [[s.Files.av 3 TFile.enc, s.Lines.av 4 TLine.enc, s.Sessions.av 4 TSession.enc, s.Queue.av 5 TJob.enc, s.Workers.av 9 TWorker.enc, s.Done.av 11 TAnswer.enc, .int .i64 s.Next, .int .i64 s.Now]]⟩ :: ⟨false, c + 1, 8, [[.nsl, .nsl, .nsl, .nsl, .nsl, .nsl, .int .i64 0, .int .i64 0]]⟩ ::
      ⟨false, c + 1 + 1, 8, [[bF.ref 3, bL.ref 4, bS.ref 4, v, s.Workers.av 9 TWorker.enc, s.Done.av 11 TAnswer.enc, .int .i64 s.Next, .int .i64 s.Now]]⟩ :: T) ⟨rfl, rfl, rfl, rfl, rfl, rfl, [], .nsl, W, rfl, rfl, Live.zero .., rfl⟩ ?_
  intro i e H c' hi ⟨e1, e2, e3, e25, e26, e27, ys, v, T, hyl, hyc, hlive, hH⟩ N hN
  subst hH
  by_cases h : i < s.Queue.list.length
  · have hg : s.Queue.list[i]? = some s.Queue.list[i] := List.getElem?_eq_getElem h
    have hx := z6 _ (List.getElem_mem h)
    have htk : (s.Queue.list.take (i + 1)).map TJob.con = (s.Queue.list.take i).map TJob.con ++ [s.Queue.list[i].con] := by rw [List.take_succ_eq_append_getElem h, List.map_append]; rfl
    generalize s.Queue.list[i] = x at hg hx htk
    have hstep : IntKind.i64.wrap ((i : Int) + 1) = ((i + 1 : Nat) : Int) := by rw [step64 (by unfold mx; omega) h]; rfl
    have m1 : (i + 1) * 88 ≤ 140737488355328 := by omega
    have m2 : i + 1 ≤ mx := by unfold mx; omega
    obtain ⟨G, ⟨l1, l2, l3⟩ | ⟨P, B, t, l1, l2, l3⟩⟩ := hlive
    · subst l1; subst l2
      simp [e1, e2, e3, e25, e26, e27, h, putA]
      refine ⟨x, hg, ?_⟩
      simp [e1, e2, e3, e25, e26, e27, h, putA]
      refine call_new (impl_cpJobO hx _) (Views.refl _ _) fun r1 O1 c4 hc4 ⟨b, hr, hO, hb⟩ _ _ => ?_
      subst hr; subst hO
      refine ⟨_, .refl _, free_agg (TJob.freeO b) _, fun o ho => TJob.freeI b o ho _, ?_⟩
      simp [e1, e2, e3, e25, e26, e27, h, putA, hstep]
      simp at hyl
      subst hyl
      refine ⟨by omega, hN _ _ _ _ h (List.Sublist.refl _) ⟨by simp [upd, e1], by simp [upd, e2], by simp [upd, e3], by simp [upd, e25], by simp [upd, e26], by simp [upd], [b], _, _, rfl, by simpa [hb] using htk.symm, Live.step0 l3 (List.Perm.refl _), rfl⟩⟩
    · subst l1; subst l2
      simp [e1, e2, e3, e25, e26, e27, h, putA]
      refine ⟨x, hg, ?_⟩
      simp [e1, e2, e3, e25, e26, e27, h, putA]
      refine call_new (impl_cpJobO hx _) (Views.refl _ _) fun r1 O1 c4 hc4 ⟨b, hr, hO, hb⟩ _ _ => ?_
      subst hr; subst hO
      refine ⟨_, .refl _, free_agg (TJob.freeO b) _, fun o ho => TJob.freeI b o ho _, ?_⟩
      simp [e1, e2, e3, e25, e26, e27, h, putA, hstep, m1, m2, hyl]
      refine hN _ _ _ _ h (List.Sublist.refl _) ⟨by simp [upd, e1], by simp [upd, e2], by simp [upd, e3], by simp [upd, e25], by simp [upd, e26], by simp [upd], ys ++ [b], _, _, by simp [hyl], by rw [List.map_append, hyc, htk, ← hb]; rfl, Live.step1 l3 (List.Perm.refl _) hyl, rfl⟩
  have hie : i = s.Queue.list.length := by omega
  subst hie
  simp [e1, e2, e3, e25, e26, e27, putA]
  have hliveQ := hlive
  have hycQ := hyc
  rw [List.take_length] at hycQ
  clear hlive hyc
  obtain ⟨v1, rfl⟩ : ∃ v1, v1 = v := ⟨v, rfl⟩
  obtain ⟨T1, rfl⟩ : ∃ T1, T1 = T := ⟨T, rfl⟩
  refine loop_drop s.Workers.list.length (fun i e H c' => e 1 = .ptr 0 c 8 0 0 ∧ e 2 = .ptr 1 (c + 1) 8 0 0 ∧ e 3 = .ptr 2 (c + 1 + 1) 8 0 0 ∧ e 41 = s.Workers.av 9 TWorker.enc ∧ e 42 = .int .i64 s.Workers.list.length ∧ e 43 = .int .i64 i ∧ ∃ (ys : List TWorker) (v : AV) (T : List AObj), ys.length = i ∧ ys.map TWorker.con = (s.Workers.list.take i).map TWorker.con ∧ Live 9 TWorker.encO TWorker.inn ys v T T1 ∧
    H = ⟨false, c, 8, [[s.Files.av 3 TFile.enc, s.Lines.av 4 TLine.enc, s.Sessions.av 4 TSession.enc, s.Queue.av 5 TJob.enc, s.Workers.av 9 TWorker.enc, s.Done.av 11 TAnswer.enc, .int .i64 s.Next, .int .i64 s.Now]]⟩ :: ⟨false, c + 1, 8, [[.nsl, .nsl, .nsl, .nsl, .nsl, .nsl, .int .i64 0, .int .i64 0]]⟩ ::
      ⟨false, c + 1 + 1, 8, [[bF.ref 3, bL.ref 4, bS.ref 4, v1, v, s.Done.av 11 TAnswer.enc, .int .i64 s.Next, .int .i64 s.Now]]⟩ :: T) ⟨by simp [upd, e1], by simp [upd, e2], by simp [upd, e3], by simp [upd], by simp [upd], by simp [upd], [], .nsl, T1, rfl, rfl, Live.zero .., rfl⟩ ?_
  clear e1 e2 e3 e25 e26 e27
  intro i e H c' hi ⟨e1, e2, e3, f0, f1, f2, ys, v, T, hyl, hyc, hlive, hH⟩ N hN
  subst hH
  by_cases h : i < s.Workers.list.length
  · have hg : s.Workers.list[i]? = some s.Workers.list[i] := List.getElem?_eq_getElem h
    have hx := z8 _ (List.getElem_mem h)
    have htk : (s.Workers.list.take (i + 1)).map TWorker.con = (s.Workers.list.take i).map TWorker.con ++ [s.Workers.list[i].con] := by rw [List.take_succ_eq_append_getElem h, List.map_append]; rfl
    generalize s.Workers.list[i] = x at hg hx htk
    have hstep : IntKind.i64.wrap ((i : Int) + 1) = ((i + 1 : Nat) : Int) := by rw [step64 (by unfold mx; omega) h]; rfl
    have m1 : (i + 1) * 144 ≤ 140737488355328 := by omega
    have m2 : i + 1 ≤ mx := by unfold mx; omega
    obtain ⟨G, ⟨l1, l2, l3⟩ | ⟨P, B, t, l1, l2, l3⟩⟩ := hlive
    · subst l1; subst l2
      simp [e1, e2, e3, f0, f1, f2, h, putA, hstep, m1, m2, hyl, TWorker.enc, TJob.encO]
      refine ⟨x, hg, ?_⟩
      simp [e1, e2, e3, f0, f1, f2, h, putA, hstep, m1, m2, hyl, TWorker.enc, TJob.encO]
      refine call_new (impl_cpJobO hx.1 _) (Views.refl _ _) fun r1 O1 c4 hc4 ⟨b1, hr, hO, hb1⟩ _ _ => ?_
      subst hr; subst hO
      refine ⟨_, .refl _, free_agg (TJob.freeO b1) _, fun o ho => TJob.freeI b1 o ho _, ?_⟩
      simp [e1, e2, e3, f0, f1, f2, h, putA, hstep, m1, m2, hyl, TWorker.enc, TJob.encO]
      refine call_new (cloneFO hx.2 _) (Views.refl _ _) fun r1 O1 c5 hc5 ⟨b2, hr, hO, hb2⟩ _ _ => ?_
      subst hr; subst hO
      refine ⟨_, .refl _, free_ref _ _ _, fun o ho => flat_free TFile.flat _ _ o ho _, ?_⟩
      simp [e1, e2, e3, f0, f1, f2, h, putA, hstep, m1, m2, hyl, TWorker.enc, TJob.encO]
      simp at hyl
      subst hyl
      refine ⟨by omega, hN _ _ _ _ h (List.Sublist.refl _) ⟨by simp [upd, e1], by simp [upd, e2], by simp [upd, e3], by simp [upd, f0], by simp [upd, f1], by simp [upd], [⟨x.State, b1, x.Data, b2, x.Served⟩], _, _, rfl, ?_, Live.two0 b1.inn (b2.wood 3 TFile.enc noInn) l3 (by simp [TWorker.inn, TJob.inn]) (by omega), rfl⟩⟩
      rw [htk]; simp [TWorker.con, SL.con, SL.pcon, hb1, hb2]
    · subst l1; subst l2
      simp [e1, e2, e3, f0, f1, f2, h, putA, hstep, m1, m2, hyl, TWorker.enc, TJob.encO]
      refine ⟨x, hg, ?_⟩
      simp [e1, e2, e3, f0, f1, f2, h, putA, hstep, m1, m2, hyl, TWorker.enc, TJob.encO]
      refine call_new (impl_cpJobO hx.1 _) (Views.refl _ _) fun r1 O1 c4 hc4 ⟨b1, hr, hO, hb1⟩ _ _ => ?_
      subst hr; subst hO
      refine ⟨_, .refl _, free_agg (TJob.freeO b1) _, fun o ho => TJob.freeI b1 o ho _, ?_⟩
      simp [e1, e2, e3, f0, f1, f2, h, putA, hstep, m1, m2, hyl, TWorker.enc, TJob.encO]
      refine call_new (cloneFO hx.2 _) (Views.refl _ _) fun r1 O1 c5 hc5 ⟨b2, hr, hO, hb2⟩ _ _ => ?_
      subst hr; subst hO
      refine ⟨_, .refl _, free_ref _ _ _, fun o ho => flat_free TFile.flat _ _ o ho _, ?_⟩
      simp [e1, e2, e3, f0, f1, f2, h, putA, hstep, m1, m2, hyl, TWorker.enc, TJob.encO]
      refine hN _ _ _ _ h (List.Sublist.refl _) ⟨by simp [upd, e1], by simp [upd, e2], by simp [upd, e3], by simp [upd, f0], by simp [upd, f1], by simp [upd], ys ++ [⟨x.State, b1, x.Data, b2, x.Served⟩], _, _, by simp [hyl], ?_, Live.two1 b1.inn (b2.wood 3 TFile.enc noInn) l3 (by simp [TWorker.inn, TJob.inn]) hyl, rfl⟩
      rw [List.map_append, hyc, htk]; simp [TWorker.con, SL.con, SL.pcon, hb1, hb2]
  have hie : i = s.Workers.list.length := by omega
  subst hie
  simp [e1, e2, e3, f0, f1, f2, putA]
  have hliveW := hlive
  have hycW := hyc
  rw [List.take_length] at hycW
  clear hlive hyc
  obtain ⟨v2, rfl⟩ : ∃ v2, v2 = v := ⟨v, rfl⟩
  obtain ⟨T2, rfl⟩ : ∃ T2, T2 = T := ⟨T, rfl⟩
  refine loop_drop s.Done.list.length (fun i e H c' => e 1 = .ptr 0 c 8 0 0 ∧ e 2 = .ptr 1 (c + 1) 8 0 0 ∧ e 3 = .ptr 2 (c + 1 + 1) 8 0 0 ∧ e 64 = s.Done.av 11 TAnswer.enc ∧ e 65 = .int .i64 s.Done.list.length ∧ e 66 = .int .i64 i ∧ ∃ (ys : List TAnswer) (v : AV) (T : List AObj), ys.length = i ∧ ys.map TAnswer.con = (s.Done.list.take i).map TAnswer.con ∧ Live 11 TAnswer.encO TAnswer.inn ys v T T2 ∧
    H = ⟨false, c, 8, [[s.Files.av 3 TFile.enc, s.Lines.av 4 TLine.enc, s.Sessions.av 4 TSession.enc, s.Queue.av 5 TJob.enc, s.Workers.av 9 TWorker.enc, s.Done.av 11 TAnswer.enc, .int .i64 s.Next, .int .i64 s.Now]]⟩ :: ⟨false, c + 1, 8, [[.nsl, .nsl, .nsl, .nsl, .nsl, .nsl, .int .i64 0, .int .i64 0]]⟩ ::
      ⟨false, c + 1 + 1, 8, [[bF.ref 3, bL.ref 4, bS.ref 4, v1, v2, v, .int .i64 s.Next, .int .i64 s.Now]]⟩ :: T) ⟨by simp [upd, e1], by simp [upd, e2], by simp [upd, e3], by simp [upd], by simp [upd], by simp [upd], [], .nsl, T2, rfl, rfl, Live.zero .., rfl⟩ ?_
  clear e1 e2 e3 f0 f1 f2
  intro i e H c' hi ⟨e1, e2, e3, f0, f1, f2, ys, v, T, hyl, hyc, hlive, hH⟩ N hN
  subst hH
  by_cases h : i < s.Done.list.length
  · have hg : s.Done.list[i]? = some s.Done.list[i] := List.getElem?_eq_getElem h
    have hx := z10 _ (List.getElem_mem h)
    have htk : (s.Done.list.take (i + 1)).map TAnswer.con = (s.Done.list.take i).map TAnswer.con ++ [s.Done.list[i].con] := by rw [List.take_succ_eq_append_getElem h, List.map_append]; rfl
    generalize s.Done.list[i] = x at hg hx htk
    have hstep : IntKind.i64.wrap ((i : Int) + 1) = ((i + 1 : Nat) : Int) := by rw [step64 (by unfold mx; omega) h]; rfl
    have m1 : (i + 1) * 192 ≤ 140737488355328 := by omega
    have m2 : i + 1 ≤ mx := by unfold mx; omega
    obtain ⟨G, ⟨l1, l2, l3⟩ | ⟨P, B, t, l1, l2, l3⟩⟩ := hlive
    · subst l1; subst l2
      simp [e1, e2, e3, f0, f1, f2, h, putA, hstep, m1, m2, hyl, TAnswer.enc, TRequest.encO]
      refine ⟨x, hg, ?_⟩
      simp [e1, e2, e3, f0, f1, f2, h, putA, hstep, m1, m2, hyl, TAnswer.enc, TRequest.encO]
      refine call_new (cloneFO hx.2.1 _) (Views.refl _ _) fun r1 O1 c5 hc5 ⟨b1, hr, hO, hb1⟩ _ _ => ?_
      subst hr; subst hO
      refine ⟨_, .refl _, free_ref _ _ _, fun o ho => flat_free TFile.flat _ _ o ho _, ?_⟩
      simp [e1, e2, e3, f0, f1, f2, h, putA, hstep, m1, m2, hyl, TAnswer.enc, TRequest.encO]
      refine call_new (impl_cpReqO hx.1 _) (Views.refl _ _) fun r1 O1 c4 hc4 ⟨b2, hr, hO, hb2⟩ _ _ => ?_
      subst hr; subst hO
      refine ⟨_, .refl _, free_agg (TRequest.freeO b2) _, fun o ho => TRequest.freeI b2 o ho _, ?_⟩
      simp [e1, e2, e3, f0, f1, f2, h, putA, hstep, m1, m2, hyl, TAnswer.enc, TRequest.encO]
      refine call_new (cloneHO hx.2.2 _) (Views.refl _ _) fun r1 O1 c6 hc6 ⟨b3, hr, hO, hb3⟩ _ _ => ?_
      subst hr; subst hO
      refine ⟨_, .refl _, free_ref _ _ _, fun o ho => flat_free THeader.flat _ _ o ho _, ?_⟩
      simp [e1, e2, e3, f0, f1, f2, h, putA, hstep, m1, m2, hyl, TAnswer.enc, TRequest.encO]
      simp at hyl
      subst hyl
      refine ⟨by omega, hN _ _ _ _ h (List.Sublist.refl _) ⟨by simp [upd, e1], by simp [upd, e2], by simp [upd, e3], by simp [upd, f0], by simp [upd, f1], by simp [upd], [⟨x.Id, x.Session, b1, b2, x.Before, ⟨x.Response.Code, b3, x.Response.Body⟩, x.After⟩], _, _, rfl, ?_, Live.three0 (b1.wood 3 TFile.enc noInn) b2.inn (b3.wood 2 THeader.enc noInn) l3 (by simp [TAnswer.inn, TRequest.inn]) (by omega), rfl⟩⟩
      rw [htk]; simp [TAnswer.con, TResponse.con, SL.con, SL.pcon, hb1, hb2, hb3]
    · subst l1; subst l2
      simp [e1, e2, e3, f0, f1, f2, h, putA, hstep, m1, m2, hyl, TAnswer.enc, TRequest.encO]
      refine ⟨x, hg, ?_⟩
      simp [e1, e2, e3, f0, f1, f2, h, putA, hstep, m1, m2, hyl, TAnswer.enc, TRequest.encO]
      refine call_new (cloneFO hx.2.1 _) (Views.refl _ _) fun r1 O1 c5 hc5 ⟨b1, hr, hO, hb1⟩ _ _ => ?_
      subst hr; subst hO
      refine ⟨_, .refl _, free_ref _ _ _, fun o ho => flat_free TFile.flat _ _ o ho _, ?_⟩
      simp [e1, e2, e3, f0, f1, f2, h, putA, hstep, m1, m2, hyl, TAnswer.enc, TRequest.encO]
      refine call_new (impl_cpReqO hx.1 _) (Views.refl _ _) fun r1 O1 c4 hc4 ⟨b2, hr, hO, hb2⟩ _ _ => ?_
      subst hr; subst hO
      refine ⟨_, .refl _, free_agg (TRequest.freeO b2) _, fun o ho => TRequest.freeI b2 o ho _, ?_⟩
      simp [e1, e2, e3, f0, f1, f2, h, putA, hstep, m1, m2, hyl, TAnswer.enc, TRequest.encO]
      refine call_new (cloneHO hx.2.2 _) (Views.refl _ _) fun r1 O1 c6 hc6 ⟨b3, hr, hO, hb3⟩ _ _ => ?_
      subst hr; subst hO
      refine ⟨_, .refl _, free_ref _ _ _, fun o ho => flat_free THeader.flat _ _ o ho _, ?_⟩
      simp [e1, e2, e3, f0, f1, f2, h, putA, hstep, m1, m2, hyl, TAnswer.enc, TRequest.encO]
      refine hN _ _ _ _ h (List.Sublist.refl _) ⟨by simp [upd, e1], by simp [upd, e2], by simp [upd, e3], by simp [upd, f0], by simp [upd, f1], by simp [upd], ys ++ [⟨x.Id, x.Session, b1, b2, x.Before, ⟨x.Response.Code, b3, x.Response.Body⟩, x.After⟩], _, _, by simp [hyl], ?_, Live.three1 (b1.wood 3 TFile.enc noInn) b2.inn (b3.wood 2 THeader.enc noInn) l3 (by simp [TAnswer.inn, TRequest.inn]) hyl, rfl⟩
      rw [List.map_append, hyc, htk]; simp [TAnswer.con, TResponse.con, SL.con, SL.pcon, hb1, hb2, hb3]
  have hie : i = s.Done.list.length := by omega
  subst hie
  simp [e1, e2, e3, f0, f1, f2, putA]
  rw [List.take_length] at hyc
  obtain ⟨s3, G3, p1, p2, p3⟩ := hlive.fin
  obtain ⟨s2, G2, p4, p5, p6⟩ := hliveW.fin
  obtain ⟨s1, G1, p7, p8, p9⟩ := hliveQ.fin
  refine fin_all ⟨⟨bF, bL, bS, s1, s2, s3, s.Next, s.Now⟩, v1, v2, v, rfl, p8, p5, p2, [_, _, _], T, rfl, ⟨G1 ++ (G2 ++ G3), perm_cnt fun p => ?_⟩, ?_⟩
  · have h1 := p3.countP_eq p
    have h2 := p6.countP_eq p
    have h3 := p9.countP_eq p
    subst hW
    simp only [TServer.inn, List.countP_append] at h1 h2 h3 ⊢
    omega
  · have e1 : s1.con TJob.con = s.Queue.con TJob.con := by unfold SL.con; rw [p7, hycQ]
    have e2 : s2.con TWorker.con = s.Workers.con TWorker.con := by unfold SL.con; rw [p4, hycW]
    have e3 : s3.con TAnswer.con = s.Done.con TAnswer.con := by unfold SL.con; rw [p1, hyc]
    have e4 : bF.con TFile.con = s.Files.con TFile.con := by unfold SL.con; rw [qF]
    have e5 : bL.con TLine.con = s.Lines.con TLine.con := by unfold SL.con; rw [qL]
    have e6 : bS.con TSession.con = s.Sessions.con TSession.con := by unfold SL.con; rw [qS]
    simp only [TServer.con, e1, e2, e3, e4, e5, e6]

/-- What a copy's walk ends with: the parts named by places, the objects among others. -/
def CopK (s : TServer) (r : AV) (O : List AObj) : Prop := ∃ (b : TServer) (l : List AV) (U T G : List AObj), r = .agg l ∧ Views [] l b.encO ∧ O = U ++ T ∧ T.Perm (b.inn ++ G) ∧ b.con = s.con
theorem con_copK {f : Nat} {args : List AV} {s : TServer} {c : Nat} (h : Con Tryz.prog f args [] c fun r O _ => CopK s r O) : Con Tryz.prog f args [] c fun r O _ => ∃ b : TServer, r = .agg b.encO ∧ O = b.inn ∧ b.con = s.con :=
  Con.fin (con_perm (Q' := fun r O _ => ∃ (b : TServer) (l : List AV), r = .agg l ∧ Views [] l b.encO ∧ O = b.inn ∧ b.con = s.con) h fun r O c' ⟨b, l, U, T, G, h1, h2, h3, h4, h5⟩ => by
    obtain ⟨Ts, hTp, hTs⟩ := List.exists_perm_sublist (List.sublist_append_left b.inn G) h4.symm
    exact ⟨Ts, b.inn, by rw [h3]; exact hTs.trans (List.sublist_append_right _ _), hTp.symm, b, l, h1, h2, rfl, h5⟩) fun r O c' _ ⟨b, l, h1, h2, h3, h4⟩ _ _ => by
      subst h1; subst h3
      exact fin_sub (List.Sublist.refl _) (view_agg h2 b.cellsO) ⟨b, rfl, rfl, h4⟩
theorem impl_cpSrvO {s : TServer} (hs : SmSrv s) (c : Nat) : Con Tryz.prog 28 [.agg s.enc] [] c fun r O _ => ∃ b : TServer, r = .agg b.encO ∧ O = b.inn ∧ b.con = s.con :=
  con_copK ((impl_cpSrvK hs c).mono fun r O c' _ ⟨b, v1, v2, v3, U, T, G, h1, h2, h3, h4, h5, h6, h7⟩ => ⟨b, _, U, T, G, h1, .cons (.refl _) (.cons (.refl _) (.cons (.refl _) (.cons h2 (.cons h3 (.cons h4 (.cons (.refl _) (.cons (.refl _) .nil))))))), h5, h6, h7⟩)
theorem smSrv_of {s : TServer} (h : s.sz ≤ 1048576) : SmSrv s := by
  simp only [TServer.sz, szFileS, szLineS, szSessionS, szJobS, szWorkerS, szAnswerS] at h
  refine ⟨by omega, by omega, fun x hx => ?_, by omega, by omega, fun x hx => ?_, by omega, fun x hx => ?_, by omega, fun x hx => ?_⟩
  · have := szL_mem (sz := TLine.sz) hx
    have e : x.sz = x.Words.list.length := rfl
    omega
  · have := szL_mem (sz := TJob.sz) hx
    simp only [TJob.sz, TRequest.sz, szPairS] at this
    exact ⟨by omega, by omega⟩
  · have := szL_mem (sz := TWorker.sz) hx
    simp only [TWorker.sz, TJob.sz, TRequest.sz, szPairS, szFileS] at this
    exact ⟨⟨by omega, by omega⟩, by omega⟩
  · have := szL_mem (sz := TAnswer.sz) hx
    simp only [TAnswer.sz, TResponse.sz, TRequest.sz, szPairS, szFileS, szHeaderS] at this
    exact ⟨⟨by omega, by omega⟩, by omega, by omega⟩
end A
end Go.Proofs.YtkcilmkienlnoaaGreatDoor

/-
  The reference's copies of a server and its parts, kept as0 objects. No condition.
-/

namespace Go.Proofs.YtkcilmkienlnoaaGreatDoor
namespace A
set_option linter.unusedVariables false
set_option linter.unusedSimpArgs false
set_option maxRecDepth 100000

theorem spec_cpReqO {x : TRequest} (h : SmR x) (c : Nat) : Con Tryz.prog 96 [.agg x.enc] [] c fun r O _ => ∃ b : TRequest, r = .agg b.encO ∧ O = b.inn ∧ b.con = x.con := by
  obtain ⟨h1, h2⟩ := h
  have m1 : x.Query.list.length * 32 ≤ 140737488355328 := by omega
  have m2 : x.Query.list.length ≤ mx := by unfold mx; omega
  have m3 : x.Cookies.list.length * 32 ≤ 140737488355328 := by omega
  have m4 : x.Cookies.list.length ≤ mx := by unfold mx; omega
  refine con_of c96 (by simp [F96]) ?_
  unfold F96
  simp [putA, m1, m2, m3, m4, TRequest.enc]
  refine fin_sub (Hk := (SL.mk (c + 1 + 1 + 1) x.Query.list).wood 2 TPair.enc noInn ++ (SL.mk (c + 1 + 1 + 1 + 1 + 1) x.Cookies.list).wood 2 TPair.enc noInn) ?_ (view_agg (.cons (.refl _) (.cons .name (.cons .name .nil))) (TRequest.cellsO ⟨x.Path, .mk (c + 1 + 1 + 1) x.Query.list, .mk (c + 1 + 1 + 1 + 1 + 1) x.Cookies.list⟩)) ⟨⟨x.Path, .mk (c + 1 + 1 + 1) x.Query.list, .mk (c + 1 + 1 + 1 + 1 + 1) x.Cookies.list⟩, rfl, rfl, by simp [TRequest.con, SL.con, SL.pcon]⟩
  rw [flat_wood, flat_wood]
  exact ((List.Sublist.refl _).cons _).cons _
theorem spec_cpJobO {x : TJob} (h : SmR x.Request) (c : Nat) : Con Tryz.prog 59 [.agg x.enc] [] c fun r O _ => ∃ b : TJob, r = .agg b.encO ∧ O = b.inn ∧ b.con = x.con := by
  refine con_of c59 (by simp [F59]) ?_
  unfold F59
  simp [putA]
  refine call_new (spec_cpReqO h _) (Views.refl _ _) fun r1 O1 c1 hc1 ⟨b1, hr, hO, q1⟩ _ _ => ?_
  subst hr; subst hO
  refine ⟨_, .refl _, free_agg (TRequest.freeO b1) _, fun o ho => TRequest.freeI b1 o ho _, ?_⟩
  simp [putA]
  refine fin_sub (Hk := b1.inn) ?_ (.refl _) ⟨⟨x.Id, b1, x.Session⟩, rfl, rfl, by simp [TJob.con, SL.con, SL.pcon, q1]⟩
  exact ((List.Sublist.refl _).cons _).cons _
theorem spec_cpWrkO {x : TWorker} (h : SmR x.Job.Request ∧ x.Files.list.length ≤ 1048576) (c : Nat) : Con Tryz.prog 60 [.agg x.enc] [] c fun r O _ => ∃ b : TWorker, r = .agg b.encO ∧ O = b.inn ∧ b.con = x.con := by
  obtain ⟨h1, h2⟩ := h
  have m1 : x.Files.list.length * 40 ≤ 140737488355328 := by omega
  have m2 : x.Files.list.length ≤ mx := by unfold mx; omega
  refine con_of c60 (by simp [F60]) ?_
  unfold F60
  simp [putA, m1, m2]
  refine call_new (spec_cpJobO h1 _) (Views.refl _ _) fun r1 O1 c1 hc1 ⟨b1, hr, hO, q1⟩ _ _ => ?_
  subst hr; subst hO
  refine ⟨_, .refl _, free_agg (TJob.freeO b1) _, fun o ho => TJob.freeI b1 o ho _, ?_⟩
  simp [putA, m1, m2, TWorker.enc, TJob.encO]
  refine fin_sub (Hk := b1.inn ++ (SL.mk (c1 + 1) x.Files.list).wood 3 TFile.enc noInn) ?_ (view_agg (.cons (.refl _) (.cons (.refl _) (.cons (.refl _) (.cons (.refl _) (.cons (.refl _) (.cons (.refl _) (.cons (.refl _) (.cons .name (.cons (.refl _) .nil))))))))) (TWorker.cellsO ⟨x.State, b1, x.Data, .mk (c1 + 1) x.Files.list, x.Served⟩)) ⟨⟨x.State, b1, x.Data, .mk (c1 + 1) x.Files.list, x.Served⟩, rfl, by simp [TWorker.inn, TJob.inn], by simp [TWorker.con, SL.con, SL.pcon, q1]⟩
  rw [flat_wood]
  exact ((List.Sublist.refl _).cons _).cons _
theorem spec_cpAnsO {x : TAnswer} (h : SmR x.Request ∧ x.Files.list.length ≤ 1048576 ∧ x.Response.Headers.list.length ≤ 1048576) (c : Nat) : Con Tryz.prog 61 [.agg x.enc] [] c fun r O _ => ∃ b : TAnswer, r = .agg b.encO ∧ O = b.inn ∧ b.con = x.con := by
  obtain ⟨h1, h2, h3⟩ := h
  have m1 : x.Files.list.length * 40 ≤ 140737488355328 := by omega
  have m2 : x.Files.list.length ≤ mx := by unfold mx; omega
  have m3 : x.Response.Headers.list.length * 32 ≤ 140737488355328 := by omega
  have m4 : x.Response.Headers.list.length ≤ mx := by unfold mx; omega
  refine con_of c61 (by simp [F61]) ?_
  unfold F61
  simp [putA, m1, m2, m3, m4, TAnswer.enc]
  refine call_new (spec_cpReqO h1 _) (Views.refl _ _) fun r1 O1 c1 hc1 ⟨b1, hr, hO, q1⟩ _ _ => ?_
  subst hr; subst hO
  refine ⟨_, .refl _, free_agg (TRequest.freeO b1) _, fun o ho => TRequest.freeI b1 o ho _, ?_⟩
  simp [putA, m1, m2, m3, m4, TAnswer.enc, TRequest.encO]
  refine fin_sub (Hk := (SL.mk (c + 1 + 1 + 1) x.Files.list).wood 3 TFile.enc noInn ++ (b1.inn ++ (SL.mk (c1 + 1) x.Response.Headers.list).wood 2 THeader.enc noInn)) ?_ (view_agg (.cons (.refl _) (.cons (.refl _) (.cons .name (.cons (.refl _) (.cons (.refl _) (.cons (.refl _) (.cons (.refl _) (.cons (.refl _) (.cons .name (.cons (.refl _) (.cons (.refl _) .nil))))))))))) (TAnswer.cellsO ⟨x.Id, x.Session, .mk (c + 1 + 1 + 1) x.Files.list, b1, x.Before, ⟨x.Response.Code, .mk (c1 + 1) x.Response.Headers.list, x.Response.Body⟩, x.After⟩)) ⟨⟨x.Id, x.Session, .mk (c + 1 + 1 + 1) x.Files.list, b1, x.Before, ⟨x.Response.Code, .mk (c1 + 1) x.Response.Headers.list, x.Response.Body⟩, x.After⟩, rfl, by simp [TAnswer.inn, TRequest.inn], by simp [TAnswer.con, TResponse.con, SL.con, SL.pcon, q1]⟩
  rw [flat_wood, flat_wood]
  exact ((List.Sublist.refl _).cons _).cons _
@[simp] theorem getW_n1 {α : Type} (P B I M : List α) (X W : α) (K : α → Prop) : getW (P ++ X :: (B ++ (I ++ W :: M))) (P.length + (B.length + I.length + 1)) K = K W := by
  have e : P ++ X :: (B ++ (I ++ W :: M)) = (P ++ X :: (B ++ I)) ++ W :: M := by simp
  have e2 : P.length + (B.length + I.length + 1) = (P ++ X :: (B ++ I)).length := by simp
  rw [e, e2, getW_len]
@[simp] theorem getW_n0 {α : Type} (T I M : List α) (W : α) (K : α → Prop) : getW (T ++ (I ++ W :: M)) (T.length + I.length) K = K W := by
  have e : T ++ (I ++ W :: M) = (T ++ I) ++ W :: M := by simp
  have e2 : T.length + I.length = (T ++ I).length := by simp
  rw [e, e2, getW_len]
theorem Live.none0 {α : Type} {w : Nat} {encO : α → List AV} {inn : α → List AObj} {T X G : List AObj} {g2 : AObj} {b : α} {t n : Nat} (I : List AObj) (h : T.Perm (X ++ G)) (hI : I.Perm (inn b)) (hn : n = T.length + I.length + 4) :
    Live w encO inn [b] (.ref n t w 1) (T ++ (I ++ [g2, ⟨false, t, w, [encO b]⟩])) X := by
  refine ⟨g2 :: G, .inr ⟨T ++ (I ++ [g2]), [], t, by subst hn; simp; omega, by simp, perm_cnt fun p => ?_⟩⟩
  have h1 := h.countP_eq p
  have h2 := hI.countP_eq p
  simp only [List.countP_append, List.countP_cons, List.countP_nil, List.flatMap_cons, List.flatMap_nil, List.append_nil, List.flatMap_append] at h1 h2 ⊢
  omega
theorem Live.none1 {α : Type} {w : Nat} {encO : α → List AV} {inn : α → List AObj} {P B X G : List AObj} {g2 : AObj} {ys : List α} {b : α} {t n : Nat} (I : List AObj) (h : (P ++ B).Perm (ys.flatMap inn ++ (X ++ G))) (hI : I.Perm (inn b)) (hn : ys.length = n) :
    Live w encO inn (ys ++ [b]) (.ref (P.length + 3) t w (n + 1)) (P ++ ⟨false, t, w, ys.map encO ++ [encO b]⟩ :: (B ++ (I ++ [g2]))) X := by
  refine ⟨g2 :: G, .inr ⟨P, B ++ (I ++ [g2]), t, by simp [hn], by simp, perm_cnt fun p => ?_⟩⟩
  have h1 := h.countP_eq p
  have h2 := hI.countP_eq p
  simp only [List.countP_append, List.countP_cons, List.countP_nil, List.flatMap_cons, List.flatMap_nil, List.append_nil, List.flatMap_append] at h1 h2 ⊢
  omega
theorem spec_cpSrvK {s : TServer} (hs : SmSrv s) (c : Nat) : Con Tryz.prog 17 [.agg s.enc] [] c fun r O _ => CopK s r O := by
  obtain ⟨z1, z2, z3, z4, z5, z6, z7, z8, z9, z10⟩ := hs
  have m1 : s.Files.list.length * 40 ≤ 140737488355328 := by omega
  have m2 : s.Files.list.length ≤ mx := by unfold mx; omega
  have m3 : s.Sessions.list.length * 48 ≤ 140737488355328 := by omega
  have m4 : s.Sessions.list.length ≤ mx := by unfold mx; omega
  refine con_of c17 (by simp [F17]) ?_
  unfold F17
  simp [putA, m1, m2, m3, m4]
  refine call_new (spec_copyO z2 z3 _) (Views.refl _ _) fun r1 O1 c2 hc2 ⟨bL, hr, hO, qL⟩ _ _ => ?_
  subst hr; subst hO
  refine ⟨_, .refl _, free_ref _ _ _, fun o ho => free_wood TLine.freeO TLine.freeI _ o ho _, ?_⟩
  simp [putA, m1, m2, m3, m4, TServer.enc]
  have hF : ∃ vF : AV, vF = .ref 3 (c + 1 + 1 + 1 + 1) 3 s.Files.list.length := ⟨_, rfl⟩
  have hS : ∃ vS : AV, vS = .ref ((bL.wood 4 TLine.encO TLine.inn).length + 1 + 1 + 1 + 1) (c2 + 1) 4 s.Sessions.list.length := ⟨_, rfl⟩
  obtain ⟨vF, hF⟩ := hF
  obtain ⟨vS, hS⟩ := hS
  rw [← hF, ← hS]
  obtain ⟨W, hW⟩ : ∃ W : List AObj, W = (⟨false, c + 1 + 1 + 1 + 1, 3, s.Files.list.map TFile.enc⟩ : AObj) :: (bL.wood 4 TLine.encO TLine.inn ++ [⟨false, c2 + 1, 4, s.Sessions.list.map TSession.enc⟩]) := ⟨_, rfl⟩
  rw [← hW]
  refine loop_drop s.Queue.list.length (fun i e H c' => e 1 = .ptr 0 c 8 0 0 ∧ e 2 = .ptr 1 (c + 1) 8 0 0 ∧ e 3 = .ptr 2 (c + 1 + 1) 8 0 0 ∧ e 4 = .int .i64 i ∧ ∃ (ys : List TJob) (v : AV) (T : List AObj), ys.length = i ∧ ys.map TJob.con = (s.Queue.list.take i).map TJob.con ∧ Live 5 TJob.encO TJob.inn ys v T W ∧
    H = ⟨false, c, 8, [[s.Files.av 3 TFile.enc, s.Lines.av 4 TLine.enc, s.Sessions.av 4 TSession.enc, s.Queue.av 5 TJob.enc, s.Workers.av 9 TWorker.enc, s.Done.av 11 TAnswer.enc, .int .i64 s.Next, .int .i64 s.Now]]⟩ :: ⟨false, c + 1, 8, [[.nsl, .nsl, .nsl, .nsl, .nsl, .nsl, .int .i64 0, .int .i64 0]]⟩ ::
      ⟨false, c + 1 + 1, 8, [[vF, bL.ref 4, vS, v, s.Workers.av 9 TWorker.enc, s.Done.av 11 TAnswer.enc, .int .i64 s.Next, .int .i64 s.Now]]⟩ :: T) ⟨rfl, rfl, rfl, rfl, [], .nsl, W, rfl, rfl, Live.zero .., rfl⟩ ?_
  intro i e H c' hi ⟨e1, e2, e3, f0, ys, v, T, hyl, hyc, hlive, hH⟩ N hN
  subst hH
  by_cases h : i < s.Queue.list.length
  · have hg : s.Queue.list[i]? = some s.Queue.list[i] := List.getElem?_eq_getElem h
    have hx := z6 _ (List.getElem_mem h)
    have htk : (s.Queue.list.take (i + 1)).map TJob.con = (s.Queue.list.take i).map TJob.con ++ [s.Queue.list[i].con] := by rw [List.take_succ_eq_append_getElem h, List.map_append]; rfl
    generalize s.Queue.list[i] = x at hg hx htk
    have hstep : IntKind.i64.wrap ((i : Int) + 1) = ((i + 1 : Nat) : Int) := by rw [step64 (by unfold mx; omega) h]; rfl
    have m1 : (i + 1) * 88 ≤ 140737488355328 := by omega
    have m2 : i + 1 ≤ mx := by unfold mx; omega
    obtain ⟨G, ⟨l1, l2, l3⟩ | ⟨P, B, t, l1, l2, l3⟩⟩ := hlive
    · subst l1; subst l2
      simp [e1, e2, e3, f0, h, putA, hstep, m1, m2, hyl]
      refine ⟨x, hg, ?_⟩
      simp [e1, e2, e3, f0, h, putA, hstep, m1, m2, hyl]
      refine call_new (spec_cpJobO hx _) (Views.refl _ _) fun r1 O1 c4 hc4 ⟨b, hr, hO, hb⟩ _ _ => ?_
      subst hr; subst hO
      refine ⟨_, .refl _, free_agg (TJob.freeO b) _, fun o ho => TJob.freeI b o ho _, ?_⟩
      simp [e1, e2, e3, f0, h, putA, hstep, m1, m2, hyl]
      simp at hyl
      subst hyl
      refine ⟨by omega, hN _ _ _ _ h (List.Sublist.refl _) ⟨by simp [upd, e1], by simp [upd, e2], by simp [upd, e3], by simp [upd], [b], _, _, rfl, by simpa [hb] using htk.symm, Live.none0 b.inn l3 (List.Perm.refl _) (by omega), rfl⟩⟩
    · subst l1; subst l2
      simp [e1, e2, e3, f0, h, putA, hstep, m1, m2, hyl]
      refine ⟨x, hg, ?_⟩
      simp [e1, e2, e3, f0, h, putA, hstep, m1, m2, hyl]
      refine call_new (spec_cpJobO hx _) (Views.refl _ _) fun r1 O1 c4 hc4 ⟨b, hr, hO, hb⟩ _ _ => ?_
      subst hr; subst hO
      refine ⟨_, .refl _, free_agg (TJob.freeO b) _, fun o ho => TJob.freeI b o ho _, ?_⟩
      simp [e1, e2, e3, f0, h, putA, hstep, m1, m2, hyl]
      refine hN _ _ _ _ h (List.Sublist.refl _) ⟨by simp [upd, e1], by simp [upd, e2], by simp [upd, e3], by simp [upd], ys ++ [b], _, _, by simp [hyl], by rw [List.map_append, hyc, htk, ← hb]; rfl, Live.none1 b.inn l3 (List.Perm.refl _) hyl, rfl⟩
  have hie : i = s.Queue.list.length := by omega
  subst hie
  simp [e1, e2, e3, f0, putA]
  rw [List.take_length] at hyc
  have hliveQ := hlive
  have hycQ := hyc
  clear hlive hyc
  obtain ⟨v1, rfl⟩ : ∃ v1, v1 = v := ⟨v, rfl⟩
  obtain ⟨T1, rfl⟩ : ∃ T1, T1 = T := ⟨T, rfl⟩
  refine loop_drop s.Workers.list.length (fun i e H c' => e 1 = .ptr 0 c 8 0 0 ∧ e 2 = .ptr 1 (c + 1) 8 0 0 ∧ e 3 = .ptr 2 (c + 1 + 1) 8 0 0 ∧ e 5 = .int .i64 i ∧ ∃ (ys : List TWorker) (v : AV) (T : List AObj), ys.length = i ∧ ys.map TWorker.con = (s.Workers.list.take i).map TWorker.con ∧ Live 9 TWorker.encO TWorker.inn ys v T T1 ∧
    H = ⟨false, c, 8, [[s.Files.av 3 TFile.enc, s.Lines.av 4 TLine.enc, s.Sessions.av 4 TSession.enc, s.Queue.av 5 TJob.enc, s.Workers.av 9 TWorker.enc, s.Done.av 11 TAnswer.enc, .int .i64 s.Next, .int .i64 s.Now]]⟩ :: ⟨false, c + 1, 8, [[.nsl, .nsl, .nsl, .nsl, .nsl, .nsl, .int .i64 0, .int .i64 0]]⟩ ::
      ⟨false, c + 1 + 1, 8, [[vF, bL.ref 4, vS, v1, v, s.Done.av 11 TAnswer.enc, .int .i64 s.Next, .int .i64 s.Now]]⟩ :: T) ⟨by simp [upd, e1], by simp [upd, e2], by simp [upd, e3], by simp [upd], [], .nsl, T1, rfl, rfl, Live.zero .., rfl⟩ ?_
  clear e1 e2 e3 f0
  intro i e H c' hi ⟨e1, e2, e3, f0, ys, v, T, hyl, hyc, hlive, hH⟩ N hN
  subst hH
  by_cases h : i < s.Workers.list.length
  · have hg : s.Workers.list[i]? = some s.Workers.list[i] := List.getElem?_eq_getElem h
    have hx := z8 _ (List.getElem_mem h)
    have htk : (s.Workers.list.take (i + 1)).map TWorker.con = (s.Workers.list.take i).map TWorker.con ++ [s.Workers.list[i].con] := by rw [List.take_succ_eq_append_getElem h, List.map_append]; rfl
    generalize s.Workers.list[i] = x at hg hx htk
    have hstep : IntKind.i64.wrap ((i : Int) + 1) = ((i + 1 : Nat) : Int) := by rw [step64 (by unfold mx; omega) h]; rfl
    have m1 : (i + 1) * 144 ≤ 140737488355328 := by omega
    have m2 : i + 1 ≤ mx := by unfold mx; omega
    obtain ⟨G, ⟨l1, l2, l3⟩ | ⟨P, B, t, l1, l2, l3⟩⟩ := hlive
    · subst l1; subst l2
      simp [e1, e2, e3, f0, h, putA, hstep, m1, m2, hyl]
      refine ⟨x, hg, ?_⟩
      simp [e1, e2, e3, f0, h, putA, hstep, m1, m2, hyl]
      refine call_new (spec_cpWrkO hx _) (Views.refl _ _) fun r1 O1 c4 hc4 ⟨b, hr, hO, hb⟩ _ _ => ?_
      subst hr; subst hO
      refine ⟨_, .refl _, free_agg (TWorker.freeO b) _, fun o ho => TWorker.freeI b o ho _, ?_⟩
      simp [e1, e2, e3, f0, h, putA, hstep, m1, m2, hyl]
      simp at hyl
      subst hyl
      refine ⟨by omega, hN _ _ _ _ h (List.Sublist.refl _) ⟨by simp [upd, e1], by simp [upd, e2], by simp [upd, e3], by simp [upd], [b], _, _, rfl, by simpa [hb] using htk.symm, Live.none0 b.inn l3 (List.Perm.refl _) (by omega), rfl⟩⟩
    · subst l1; subst l2
      simp [e1, e2, e3, f0, h, putA, hstep, m1, m2, hyl]
      refine ⟨x, hg, ?_⟩
      simp [e1, e2, e3, f0, h, putA, hstep, m1, m2, hyl]
      refine call_new (spec_cpWrkO hx _) (Views.refl _ _) fun r1 O1 c4 hc4 ⟨b, hr, hO, hb⟩ _ _ => ?_
      subst hr; subst hO
      refine ⟨_, .refl _, free_agg (TWorker.freeO b) _, fun o ho => TWorker.freeI b o ho _, ?_⟩
      simp [e1, e2, e3, f0, h, putA, hstep, m1, m2, hyl]
      refine hN _ _ _ _ h (List.Sublist.refl _) ⟨by simp [upd, e1], by simp [upd, e2], by simp [upd, e3], by simp [upd], ys ++ [b], _, _, by simp [hyl], by rw [List.map_append, hyc, htk, ← hb]; rfl, Live.none1 b.inn l3 (List.Perm.refl _) hyl, rfl⟩
  have hie : i = s.Workers.list.length := by omega
  subst hie
  simp [e1, e2, e3, f0, putA]
  rw [List.take_length] at hyc
  have hliveW := hlive
  have hycW := hyc
  clear hlive hyc
  obtain ⟨v2, rfl⟩ : ∃ v2, v2 = v := ⟨v, rfl⟩
  obtain ⟨T2, rfl⟩ : ∃ T2, T2 = T := ⟨T, rfl⟩
  refine loop_drop s.Done.list.length (fun i e H c' => e 1 = .ptr 0 c 8 0 0 ∧ e 2 = .ptr 1 (c + 1) 8 0 0 ∧ e 3 = .ptr 2 (c + 1 + 1) 8 0 0 ∧ e 6 = .int .i64 i ∧ ∃ (ys : List TAnswer) (v : AV) (T : List AObj), ys.length = i ∧ ys.map TAnswer.con = (s.Done.list.take i).map TAnswer.con ∧ Live 11 TAnswer.encO TAnswer.inn ys v T T2 ∧
    H = ⟨false, c, 8, [[s.Files.av 3 TFile.enc, s.Lines.av 4 TLine.enc, s.Sessions.av 4 TSession.enc, s.Queue.av 5 TJob.enc, s.Workers.av 9 TWorker.enc, s.Done.av 11 TAnswer.enc, .int .i64 s.Next, .int .i64 s.Now]]⟩ :: ⟨false, c + 1, 8, [[.nsl, .nsl, .nsl, .nsl, .nsl, .nsl, .int .i64 0, .int .i64 0]]⟩ ::
      ⟨false, c + 1 + 1, 8, [[vF, bL.ref 4, vS, v1, v2, v, .int .i64 s.Next, .int .i64 s.Now]]⟩ :: T) ⟨by simp [upd, e1], by simp [upd, e2], by simp [upd, e3], by simp [upd], [], .nsl, T2, rfl, rfl, Live.zero .., rfl⟩ ?_
  clear e1 e2 e3 f0
  intro i e H c' hi ⟨e1, e2, e3, f0, ys, v, T, hyl, hyc, hlive, hH⟩ N hN
  subst hH
  by_cases h : i < s.Done.list.length
  · have hg : s.Done.list[i]? = some s.Done.list[i] := List.getElem?_eq_getElem h
    have hx := z10 _ (List.getElem_mem h)
    have htk : (s.Done.list.take (i + 1)).map TAnswer.con = (s.Done.list.take i).map TAnswer.con ++ [s.Done.list[i].con] := by rw [List.take_succ_eq_append_getElem h, List.map_append]; rfl
    generalize s.Done.list[i] = x at hg hx htk
    have hstep : IntKind.i64.wrap ((i : Int) + 1) = ((i + 1 : Nat) : Int) := by rw [step64 (by unfold mx; omega) h]; rfl
    have m1 : (i + 1) * 192 ≤ 140737488355328 := by omega
    have m2 : i + 1 ≤ mx := by unfold mx; omega
    obtain ⟨G, ⟨l1, l2, l3⟩ | ⟨P, B, t, l1, l2, l3⟩⟩ := hlive
    · subst l1; subst l2
      simp [e1, e2, e3, f0, h, putA, hstep, m1, m2, hyl]
      refine ⟨x, hg, ?_⟩
      simp [e1, e2, e3, f0, h, putA, hstep, m1, m2, hyl]
      refine call_new (spec_cpAnsO hx _) (Views.refl _ _) fun r1 O1 c4 hc4 ⟨b, hr, hO, hb⟩ _ _ => ?_
      subst hr; subst hO
      refine ⟨_, .refl _, free_agg (TAnswer.freeO b) _, fun o ho => TAnswer.freeI b o ho _, ?_⟩
      simp [e1, e2, e3, f0, h, putA, hstep, m1, m2, hyl]
      simp at hyl
      subst hyl
      refine ⟨by omega, hN _ _ _ _ h (List.Sublist.refl _) ⟨by simp [upd, e1], by simp [upd, e2], by simp [upd, e3], by simp [upd], [b], _, _, rfl, by simpa [hb] using htk.symm, Live.none0 b.inn l3 (List.Perm.refl _) (by omega), rfl⟩⟩
    · subst l1; subst l2
      simp [e1, e2, e3, f0, h, putA, hstep, m1, m2, hyl]
      refine ⟨x, hg, ?_⟩
      simp [e1, e2, e3, f0, h, putA, hstep, m1, m2, hyl]
      refine call_new (spec_cpAnsO hx _) (Views.refl _ _) fun r1 O1 c4 hc4 ⟨b, hr, hO, hb⟩ _ _ => ?_
      subst hr; subst hO
      refine ⟨_, .refl _, free_agg (TAnswer.freeO b) _, fun o ho => TAnswer.freeI b o ho _, ?_⟩
      simp [e1, e2, e3, f0, h, putA, hstep, m1, m2, hyl]
      refine hN _ _ _ _ h (List.Sublist.refl _) ⟨by simp [upd, e1], by simp [upd, e2], by simp [upd, e3], by simp [upd], ys ++ [b], _, _, by simp [hyl], by rw [List.map_append, hyc, htk, ← hb]; rfl, Live.none1 b.inn l3 (List.Perm.refl _) hyl, rfl⟩
  have hie : i = s.Done.list.length := by omega
  subst hie
  simp [e1, e2, e3, f0, putA]
  rw [List.take_length] at hyc
  obtain ⟨s3, G3, p1, p2, p3⟩ := hlive.fin
  obtain ⟨s2, G2, p4, p5, p6⟩ := hliveW.fin
  obtain ⟨s1, G1, p7, p8, p9⟩ := hliveQ.fin
  refine fin_all ⟨⟨.mk (c + 1 + 1 + 1 + 1) s.Files.list, bL, .mk (c2 + 1) s.Sessions.list, s1, s2, s3, s.Next, s.Now⟩, _, [_, _, _], T, G1 ++ (G2 ++ G3), rfl, .cons (by rw [hF]; exact .name) (.cons (.refl _) (.cons (by rw [hS]; exact .name) (.cons p8 (.cons p5 (.cons p2 (.cons (.refl _) (.cons (.refl _) .nil))))))), rfl, perm_cnt fun p => ?_, ?_⟩
  · have h1 := p3.countP_eq p
    have h2 := p6.countP_eq p
    have h3 := p9.countP_eq p
    subst hW
    simp only [TServer.inn, flat_wood, List.countP_append, List.countP_cons, List.countP_nil] at h1 h2 h3 ⊢
    omega
  · have e1 : s1.con TJob.con = s.Queue.con TJob.con := by unfold SL.con; rw [p7, hycQ]
    have e2 : s2.con TWorker.con = s.Workers.con TWorker.con := by unfold SL.con; rw [p4, hycW]
    have e3 : s3.con TAnswer.con = s.Done.con TAnswer.con := by unfold SL.con; rw [p1, hyc]
    have e5 : bL.con TLine.con = s.Lines.con TLine.con := by unfold SL.con; rw [qL]
    have e4 : (SL.mk (c + 1 + 1 + 1 + 1) s.Files.list).con TFile.con = s.Files.con TFile.con := rfl
    have e6 : (SL.mk (c2 + 1) s.Sessions.list).con TSession.con = s.Sessions.con TSession.con := rfl
    simp only [TServer.con, e1, e2, e3, e4, e5, e6]
theorem spec_cpSrvO {s : TServer} (hs : SmSrv s) (c : Nat) : Con Tryz.prog 17 [.agg s.enc] [] c fun r O _ => ∃ b : TServer, r = .agg b.encO ∧ O = b.inn ∧ b.con = s.con := con_copK (spec_cpSrvK hs c)
end A
end Go.Proofs.YtkcilmkienlnoaaGreatDoor

/-
  DropHolds of the reference and of the program are the same plain function; both results as0 objects. No condition.
-/


namespace Go.Proofs.YtkcilmkienlnoaaGreatDoor
namespace A
set_option linter.unusedVariables false
set_option linter.unusedSimpArgs false
set_option maxRecDepth 100000

def dropH (who : Int) (x : TSession) : TSession := if x.Holder = who then { x with Holder := 0 } else x

theorem spec_dropO {s : SL TSession} {who : Int} (hn : s.list.length ≤ 1048576) (c : Nat) : Con Tryz.prog 19 [s.av 4 TSession.enc, .int .i64 who] [] c fun r O _ => ∃ x : SL TSession, r = x.ref 4 ∧ O = x.wood 4 TSession.enc noInn ∧ x.list = s.list.map (dropH who) := by
  refine Con.mono (Q := fun r O _ => ∃ t, r = .ref 0 t 4 s.list.length ∧ O = [⟨false, t, 4, (s.list.map (dropH who)).map TSession.enc⟩]) ?_ fun r O c' _ ⟨t, h1, h2⟩ => ⟨.mk t (s.list.map (dropH who)), by rw [h1]; simp [SL.ref], by rw [h2, flat_wood], rfl⟩
  refine con_of c19 (by simp [F19]) ?_
  unfold F19
  simp
  refine ⟨by omega, by unfold mx; omega, ?_⟩
  refine loop_drop s.list.length (fun i e H c' => e 1 = .int .i64 who ∧ e 5 = .ref 0 (c + 1) 4 s.list.length ∧ e 6 = .int .i64 i ∧ H = [⟨false, c + 1, 4, (mixM (dropH who) s.list i).map TSession.enc⟩]) ⟨rfl, by simp, rfl, by rw [mixM_zero]⟩ ?_
  intro i e H c' hi ⟨e1, e5, e6, hH⟩ N hN
  subst hH
  simp [e1, e5, e6]
  refine ⟨fun h => ?_, fun h => ?_⟩
  · refine ⟨h, s.list[i], mixM_get _ h, ?_⟩
    simp [e1, e5, e6, h]
    by_cases hw : s.list[i].Holder = who
    · simp [e1, e5, e6, hw, h]
      refine ⟨s.list[i], mixM_get _ h, ?_⟩
      simp [putA]
      refine hN _ _ _ _ h (List.Sublist.refl _) ⟨by simp [upd, e1], by simp [upd, e5], by simp [upd]; exact step64 (by unfold mx; omega) h, ?_⟩
      rw [← mixM_set _ h, List.map_set]
      simp [dropH, hw, TSession.enc]
    · simp [e1, e5, e6, hw, h]
      refine hN _ _ _ _ h (List.Sublist.refl _) ⟨by simp [upd, e1], by simp [upd, e5], by simp [upd]; exact step64 (by unfold mx; omega) h, ?_⟩
      rw [mixM_same _ h (by simp [dropH, hw])]
  · have h1 : i = s.list.length := by omega
    subst h1
    exact fin_all ⟨c + 1, rfl, by rw [mixM_all]; simp⟩

theorem impl_dropO {s : SL TSession} {who : Int} (hn : s.list.length ≤ 1048576) (c : Nat) : Con Tryz.prog 31 [s.av 4 TSession.enc, .int .i64 who] [] c fun r O _ => ∃ x : SL TSession, r = x.ref 4 ∧ O = x.wood 4 TSession.enc noInn ∧ x.list = s.list.map (dropH who) := by
  refine con_of c31 (by simp [F31]) ?_
  unfold F31
  simp
  refine call_new (clone_con (b := 48) (z := [.str [], .str [], .int .i64 0, .int .i64 0]) c72 (by omega) (by unfold mx; omega) _) (Views.refl _ _) fun r O c1 hc ⟨x, hr, hO, hx⟩ _ _ => ?_
  subst hr; subst hO
  refine ⟨_, .refl _, by exact free_ref _ _ _, fun o ho => flat_free TSession.flat _ _ o ho _, ?_⟩
  simp
  refine loop_drop s.list.length (fun i e H c' => e 1 = .int .i64 who ∧ e 5 = x.ref 4 ∧ e 10 = s.av 4 TSession.enc ∧ e 11 = .int .i64 s.list.length ∧ e 12 = .int .i64 i ∧ H = (x.lmap fun l => mixM (dropH who) l i).wood 4 TSession.enc noInn) ⟨rfl, rfl, rfl, rfl, rfl, by simp only [mixM_zero]; exact (SL.wood_lmap _ _ _).symm⟩ ?_
  intro i e H c' hi ⟨e1, e5, e10, e11, e12, hH⟩ N hN
  simp [e1, e5, e10, e11, e12]
  refine ⟨fun h => ?_, fun h => ?_⟩
  · cases x with
    | nil => rw [← hx] at h; simp at h
    | mk t l =>
      simp only [SL.list_mk] at hx
      subst hx
      simp only [SL.lmap, flat_wood, SL.ref] at e5 hN hH
      subst hH
      refine ⟨s.list[i], List.getElem?_eq_getElem h, ?_⟩
      simp [e1, e5, e10, e11, e12, h]
      by_cases hw : s.list[i].Holder = who
      · simp [e1, e5, e10, e11, e12, hw, h]
        refine ⟨s.list[i], mixM_get _ h, ?_⟩
        simp [putA]
        refine hN _ _ _ _ h (sub_one _ _) ⟨by simp [upd, e1], by simp [upd, e5], by simp [upd, e10], by simp [upd, e11], by simp [upd]; exact step64 (by unfold mx; omega) h, ?_⟩
        rw [← mixM_set _ h, List.map_set]
        simp [dropH, hw, TSession.enc]
      · simp [e1, e5, e10, e11, e12, hw, h]
        refine hN _ _ _ _ h (sub_one _ _) ⟨by simp [upd, e1], by simp [upd, e5], by simp [upd, e10], by simp [upd, e11], by simp [upd]; exact step64 (by unfold mx; omega) h, ?_⟩
        rw [mixM_same _ h (by simp [dropH, hw])]
  · have h1 : i = s.list.length := by omega
    subst h1
    subst hH
    refine fin_all ⟨x.lmap fun l => mixM (dropH who) l s.list.length, ?_, rfl, ?_⟩
    · cases x <;> simp [SL.lmap, SL.ref]
    · rw [SL.lmap_list (by simp), hx, mixM_all]
end A
end Go.Proofs.YtkcilmkienlnoaaGreatDoor

/-
  Lists of sessions of one content are one list. No condition.
-/


namespace Go.Proofs.YtkcilmkienlnoaaGreatDoor
namespace A
theorem sessCon {l m : List TSession} (h : l.map TSession.con = m.map TSession.con) : l = m := by
  have e : ∀ l : List TSession, l.map TSession.con = l := fun l => List.map_id' l
  rwa [e, e] at h
end A
end Go.Proofs.YtkcilmkienlnoaaGreatDoor

/-
  Letters and digits, of the reference and of the program. No condition.
-/

namespace Go.Proofs.YtkcilmkienlnoaaGreatDoor
namespace A
set_option linter.unusedVariables false
set_option linter.unusedSimpArgs false
set_option maxRecDepth 100000

def isL (b : UInt8) : Bool := inR b.toNat 97 122 || inR b.toNat 65 90 || decide (b.toNat = 95)
def isD (b : UInt8) : Bool := inR b.toNat 48 57
theorem wrap_b (b : UInt8) : IntKind.i64.wrap (b.toNat : Int) = b.toNat := by
  have := b.toNat_lt
  exact wrap64 (by omega) (by omega)
theorem letter_fn (b : UInt8) : Fnc Tryz.prog 127 [.int .u8 b.toNat] (.bool (isL b)) := by
  refine fn_of c127 (by simp [F127]) fun c => ?_
  unfold F127
  simp [wrap_b]
  refine call_fn0 (l1In_fn _ _ _) .bool fun _ _ => ?_
  cases h1 : inR b.toNat 97 122 <;> simp [wrap_b]
  · refine call_fn0 (l1In_fn _ _ _) .bool fun _ _ => ?_
    cases h2 : inR b.toNat 65 90 <;> simp
    · exact fin_plain ⟨by simp [isL, h1, h2]; omega, rfl⟩
    · exact fin_plain ⟨by simp [isL, h1, h2], rfl⟩
  · exact fin_plain ⟨by simp [isL, h1], rfl⟩
theorem digit_fn (b : UInt8) : Fnc Tryz.prog 128 [.int .u8 b.toNat] (.bool (isD b)) := by
  refine fn_of c128 (by simp [F128]) fun c => ?_
  unfold F128
  simp [wrap_b]
  refine call_fn0 (l1In_fn _ _ _) .bool fun _ _ => ?_
  simp
  exact fin_plain ⟨rfl, rfl⟩
def isA (b : UInt8) : Bool := inR b.toNat 65 90 || inR b.toNat 97 122
theorem isLetter_fn (b : UInt8) : Fnc Tryz.prog 132 [.int .u8 b.toNat] (.bool (isA b)) := by
  refine fn_of c132 (by simp [F132]) fun c => ?_
  unfold F132 isA inR
  by_cases h1 : (65 : Int) ≤ b.toNat <;> by_cases h2 : (b.toNat : Int) ≤ 90 <;> by_cases h3 : (97 : Int) ≤ b.toNat <;> simp [h1, h2, h3] <;> exact fin_plain (by simp)
theorem isDigit_fn (b : UInt8) : Fnc Tryz.prog 133 [.int .u8 b.toNat] (.bool (isD b)) := by
  refine fn_of c133 (by simp [F133]) fun c => ?_
  unfold F133 isD inR
  by_cases h1 : (48 : Int) ≤ b.toNat <;> simp [h1] <;> exact fin_plain (by simp)
theorem isL_A (b : UInt8) : isL b = (isA b || decide (b.toNat = 95)) := by
  simp [isL, isA, Bool.or_comm (inR b.toNat 97 122)]
end A
end Go.Proofs.YtkcilmkienlnoaaGreatDoor

/-
  Cutting a text at another: plain laws. No condition.
-/


namespace Go.Proofs.YtkcilmkienlnoaaGreatDoor
namespace A
set_option linter.unusedVariables false
set_option linter.unusedSimpArgs false

theorem split_miss {s sep : List UInt8} (h : Lib.index s sep = -1) : Lib.split s sep = [s] := by
  unfold Lib.split; rw [Lib.count_miss h]; rfl
theorem split_hit {s sep : List UInt8} {i : Nat} (hs : sep ≠ []) (h : Lib.index s sep = i) : Lib.split s sep = s.take i :: Lib.split (s.drop (i + sep.length)) sep := by
  have hm : ¬ (Lib.index s sep == -1) = true := fun e => by have := beq_iff_eq.1 e; omega
  have e : (Lib.index s sep).toNat = i := by omega
  unfold Lib.split
  rw [Lib.count_hit hs h, Nat.add_comm, Lib.splitK, if_neg hm, e]
  rfl
theorem occ_drop (l sep : List UInt8) (a j : Nat) : Lib.occAt (l.drop a) sep j = Lib.occAt l sep (a + j) := by
  unfold Lib.occAt; rw [List.drop_drop]
theorem drop_take' (l : List UInt8) (a i : Nat) : (l.drop a).take (i - a) = (l.take i).drop a := by
  rw [List.drop_take]
theorem index_at {l sep : List UInt8} {a i : Nat} (ha : a ≤ i) (hi : i ≤ l.length) (hno : ∀ j, a ≤ j → j < i → Lib.occAt l sep j = false) (ho : Lib.occAt l sep i = true) : Lib.index (l.drop a) sep = ((i - a : Nat) : Int) := by
  refine Lib.index_first (by simp; omega) (by rw [occ_drop, show a + (i - a) = i by omega]; exact ho) fun j hj => ?_
  rw [occ_drop]
  exact hno _ (by omega) (by omega)
theorem split_at {l sep : List UInt8} {a i : Nat} (hs : sep ≠ []) (ha : a ≤ i) (hi : i ≤ l.length) (hno : ∀ j, a ≤ j → j < i → Lib.occAt l sep j = false) (ho : Lib.occAt l sep i = true) :
    Lib.split (l.drop a) sep = (l.take i).drop a :: Lib.split (l.drop (i + sep.length)) sep := by
  rw [split_hit hs (index_at ha hi hno ho), drop_take', List.drop_drop, show a + (i - a + sep.length) = i + sep.length by omega]
theorem occ_end {l sep : List UInt8} (hs : sep ≠ []) {i : Nat} (hi : l.length ≤ i) : Lib.occAt l sep i = false := by
  cases h : Lib.occAt l sep i
  · rfl
  · have := Lib.occAt_room h
    have h2 : sep.length ≠ 0 := fun e => hs (List.length_eq_zero_iff.1 e)
    rcases this with h1 | h1
    · omega
    · exact absurd h1 hs
theorem index_no {l sep : List UInt8} {a : Nat} (hs : sep ≠ []) (hno : ∀ j, a ≤ j → j < l.length → Lib.occAt l sep j = false) : Lib.index (l.drop a) sep = -1 := by
  refine Lib.index_none fun j hj => ?_
  rw [occ_drop]
  rcases Nat.lt_or_ge (a + j) l.length with h | h
  · exact hno _ (by omega) h
  · exact occ_end hs h
theorem split_end {l sep : List UInt8} {a : Nat} (hs : sep ≠ []) (hno : ∀ j, a ≤ j → j < l.length → Lib.occAt l sep j = false) : Lib.split (l.drop a) sep = [l.drop a] := split_miss (index_no hs hno)
theorem occ_room {l sep : List UInt8} (hs : sep ≠ []) {i : Nat} (h : Lib.occAt l sep i = true) : i + sep.length ≤ l.length := (Lib.occAt_room h).resolve_right hs

/-- where a byte stands first, or the end -/
def upTo (b : UInt8) (l : List UInt8) : Nat := (l.takeWhile (fun x => !decide (x = b))).length
theorem upTo_le (b : UInt8) (l : List UInt8) : upTo b l ≤ l.length := by
  unfold upTo
  exact (List.takeWhile_sublist _).length_le
theorem upTo_eq {b : UInt8} : ∀ {l : List UInt8} {i : Nat}, i ≤ l.length → (∀ j, j < i → l[j]? ≠ some b) → (i = l.length ∨ l[i]? = some b) → upTo b l = i
  | [], i, hi, _, _ => by simp at hi; subst hi; rfl
  | x :: l, 0, _, _, h => by
    rcases h with h | h
    · simp at h
    · simp at h; subst h; simp [upTo]
  | x :: l, i + 1, hi, hn, h => by
    have h0 := hn 0 (by omega)
    simp at h0
    have ih := upTo_eq (b := b) (l := l) (i := i) (by simpa using hi) (fun j hj => by simpa using hn (j + 1) (by omega)) (by simpa using h)
    unfold upTo at ih ⊢
    simp [h0, ih]
theorem upTo_spec (b : UInt8) : ∀ (l : List UInt8), (∀ j, j < upTo b l → l[j]? ≠ some b) ∧ (upTo b l = l.length ∨ l[upTo b l]? = some b)
  | [] => by simp [upTo]
  | x :: l => by
    by_cases h : x = b
    · subst h; simp [upTo]
    · obtain ⟨h1, h2⟩ := upTo_spec b l
      have e : upTo b (x :: l) = upTo b l + 1 := by simp [upTo, h]
      rw [e]
      refine ⟨fun j hj => ?_, by simpa using h2⟩
      cases j with
      | zero => simpa using h
      | succ j => simpa using h1 j (by omega)
theorem occ_one (l : List UInt8) (b : UInt8) (i : Nat) : Lib.occAt l [b] i = decide (l[i]? = some b) := by
  unfold Lib.occAt
  cases h : l.drop i with
  | nil =>
    have : l[i]? = none := by
      rw [List.getElem?_eq_none_iff]
      have := List.drop_eq_nil_iff.1 h
      exact this
    simp [this]
  | cons x r =>
    have : l[i]? = some x := by
      have h2 : (l.drop i)[0]? = some x := by rw [h]; rfl
      simpa using h2
    rw [this]
    simp only [List.isPrefixOf, Bool.and_true, Option.some.injEq]
    by_cases hx : b = x
    · subst hx; simp
    · have : ¬ x = b := fun e => hx e.symm
      simp [hx, this]
theorem cut_one (b : UInt8) (l : List UInt8) : (Lib.cut l [b]).1 = l.take (upTo b l) ∧ (Lib.cut l [b]).2.1 = l.drop (upTo b l + 1) := by
  obtain ⟨h1, h2⟩ := upTo_spec b l
  unfold Lib.cut
  rcases h2 with h2 | h2
  · have : Lib.index l [b] = -1 := Lib.index_none fun j hj => by
      rw [occ_one]
      rcases Nat.lt_or_ge j l.length with h | h
      · simpa using h1 j (by omega)
      · simp [h]
    rw [this, if_neg (by omega), h2]
    simp
  · have : Lib.index l [b] = upTo b l := Lib.index_first (upTo_le b l) (by rw [occ_one]; simpa using h2) fun j hj => by rw [occ_one]; simpa using h1 j hj
    rw [this, if_pos (by omega)]
    simp
end A
end Go.Proofs.YtkcilmkienlnoaaGreatDoor
