import Derived.Test.YtfcimcoanlgldaaGreatRows
import Derived.OpenShut
import Derived.Test.YtfcimcoanlgldaaGreatB09

/-
  What reads the marks on a server's parts: printed by a program (wip/tools/genobj.py). No condition.
-/

namespace Go.Proofs.YtfcimcoanlgldaaGreat
namespace A
set_option linter.unusedVariables false
set_option linter.unusedSimpArgs false
set_option maxRecDepth 100000

theorem heldFile_nil (k : Int) : Fnc Tryz.prog 44 [.nsl, .int .i64 k] (.int .i64 k) := by
  refine fn_of c44 (by simp [F44]) fun c => ?_
  unfold F44
  simp
  refine loop_drop 0 (fun i e H c' => e 0 = .nsl ∧ e 1 = .int .i64 k ∧ e 5 = .int .i64 0 ∧ H = []) ⟨rfl, rfl, rfl, rfl⟩ ?_
  intro i e H c hi ⟨e0, e1, e5, hH⟩ N hN
  subst hH
  simp [e0, e1, e5]
  exact fin_plain ⟨rfl, rfl⟩
set_option maxHeartbeats 4000000 in
theorem heldFile_fn1 {l : List TFile} (hz : szL cFile l ≤ 16777216) {k : Int} (hk : 0 ≤ k ∧ k ≤ 1099511627776) (t : Nat) :
    Fnc Tryz.prog 44 [(SL.mk t (mks mkFile cFile k l)).av 3 TFile.enc, .int .i64 k] (.int .i64 (k + szL cFile l)) := by
  have hln := szL_cFile l
  refine fn_of c44 (by simp [F44]) fun c => ?_
  unfold F44
  simp
  have hlen := mks_len mkFile cFile k l
  refine loop_drop l.length (fun i e H c' => e 0 = (SL.mk t (mks mkFile cFile k l)).av 3 TFile.enc ∧ e 1 = .int .i64 (k + szL cFile (l.take i)) ∧ e 5 = .int .i64 i ∧ H = []) ⟨rfl, by simp [szL], rfl, rfl⟩ ?_
  intro i e H c hi ⟨e0, e1, e5, hH⟩ N hN
  subst hH
  have hg := fun h : i < l.length => mks_get mkFile cFile k l h
  have hst := fun h : i < l.length => szL_step cFile l h
  have hle := szL_le cFile l i
  have hle' := szL_le cFile l (i + 1)
  generalize hjj : k + (szL cFile (l.take i) : Int) = j at e1 hg
  simp [e0, e1, e5, hlen]
  refine ⟨fun h => ?_, fun h => ?_⟩
  · have hg := hg h
    have hst := hst h
    have hx := szL_mem (sz := cFile) (List.getElem_mem h)
    generalize l[i] = x at hg hst hx
    simp only [cFile] at hx hst
    have w0 : IntKind.i64.wrap (j + 1) = j + 1 := wrap64 (by omega) (by omega)
    have f0 : (mkFile j x).Path = mtext (j) := rfl
    have w1 : IntKind.i64.wrap (j + 1 + 1) = j + 1 + 1 := wrap64 (by omega) (by omega)
    have f1 : (mkFile j x).Source = mtext (j + 1) := rfl
    have w2 : IntKind.i64.wrap (j + 1 + 1 + 1) = j + 1 + 1 + 1 := wrap64 (by omega) (by omega)
    have f2 : (mkFile j x).Version = j + 1 + 1 := rfl
    refine ⟨_, hg, ?_⟩
    simp [e0, e1, e5, h, w0, w1, w2, f0, f1, f2]
    refine callF_fn0 (mtext_fn (by omega)) .str fun _ _ => ?_
    simp [e0, e1, e5, h, w0, w1, w2, f0, f1, f2]
    refine ⟨_, hg, ?_⟩
    simp [e0, e1, e5, h, w0, w1, w2, f0, f1, f2]
    refine callF_fn0 (mtext_fn (by omega)) .str fun _ _ => ?_
    simp [e0, e1, e5, h, w0, w1, w2, f0, f1, f2]
    refine ⟨_, hg, ?_⟩
    simp [e0, e1, e5, h, w0, w1, w2, f0, f1, f2]
    refine hN _ _ _ _ h (List.Sublist.refl _) ⟨by simp [upd, e0], ?_, by simp [upd]; exact step64 (by unfold mx; omega) h, rfl⟩
    simp [upd, w0, w1, w2, hst]; omega
  · have h1 : i = l.length := by omega
    subst h1
    refine fin_plain ⟨?_, rfl⟩
    rw [← hjj]; simp
theorem heldFile_fn {s : SL TFile} (hz : szL cFile s.list ≤ 16777216) {k : Int} (hk : 0 ≤ k ∧ k ≤ 1099511627776) :
    Fnc Tryz.prog 44 [(s.marks mkFile cFile k).av 3 TFile.enc, .int .i64 k] (.int .i64 (k + szL cFile s.list)) := by
  cases s with
  | nil =>
    have := heldFile_nil k
    simpa [SL.av, SL.marks, szL] using this
  | mk t l => exact heldFile_fn1 (l := l) hz hk t
theorem heldSession_nil (k : Int) : Fnc Tryz.prog 46 [.nsl, .int .i64 k] (.int .i64 k) := by
  refine fn_of c46 (by simp [F46]) fun c => ?_
  unfold F46
  simp
  refine loop_drop 0 (fun i e H c' => e 0 = .nsl ∧ e 1 = .int .i64 k ∧ e 5 = .int .i64 0 ∧ H = []) ⟨rfl, rfl, rfl, rfl⟩ ?_
  intro i e H c hi ⟨e0, e1, e5, hH⟩ N hN
  subst hH
  simp [e0, e1, e5]
  exact fin_plain ⟨rfl, rfl⟩
set_option maxHeartbeats 4000000 in
theorem heldSession_fn1 {l : List TSession} (hz : szL cSession l ≤ 16777216) {k : Int} (hk : 0 ≤ k ∧ k ≤ 1099511627776) (t : Nat) :
    Fnc Tryz.prog 46 [(SL.mk t (mks mkSession cSession k l)).av 4 TSession.enc, .int .i64 k] (.int .i64 (k + szL cSession l)) := by
  have hln := szL_cSession l
  refine fn_of c46 (by simp [F46]) fun c => ?_
  unfold F46
  simp
  have hlen := mks_len mkSession cSession k l
  refine loop_drop l.length (fun i e H c' => e 0 = (SL.mk t (mks mkSession cSession k l)).av 4 TSession.enc ∧ e 1 = .int .i64 (k + szL cSession (l.take i)) ∧ e 5 = .int .i64 i ∧ H = []) ⟨rfl, by simp [szL], rfl, rfl⟩ ?_
  intro i e H c hi ⟨e0, e1, e5, hH⟩ N hN
  subst hH
  have hg := fun h : i < l.length => mks_get mkSession cSession k l h
  have hst := fun h : i < l.length => szL_step cSession l h
  have hle := szL_le cSession l i
  have hle' := szL_le cSession l (i + 1)
  generalize hjj : k + (szL cSession (l.take i) : Int) = j at e1 hg
  simp [e0, e1, e5, hlen]
  refine ⟨fun h => ?_, fun h => ?_⟩
  · have hg := hg h
    have hst := hst h
    have hx := szL_mem (sz := cSession) (List.getElem_mem h)
    generalize l[i] = x at hg hst hx
    simp only [cSession] at hx hst
    have w0 : IntKind.i64.wrap (j + 1) = j + 1 := wrap64 (by omega) (by omega)
    have f0 : (mkSession j x).Id = mtext (j) := rfl
    have w1 : IntKind.i64.wrap (j + 1 + 1) = j + 1 + 1 := wrap64 (by omega) (by omega)
    have f1 : (mkSession j x).Data = mtext (j + 1) := rfl
    have w2 : IntKind.i64.wrap (j + 1 + 1 + 1) = j + 1 + 1 + 1 := wrap64 (by omega) (by omega)
    have f2 : (mkSession j x).Holder = j + 1 + 1 := rfl
    have w3 : IntKind.i64.wrap (j + 1 + 1 + 1 + 1) = j + 1 + 1 + 1 + 1 := wrap64 (by omega) (by omega)
    have f3 : (mkSession j x).At = j + 1 + 1 + 1 := rfl
    refine ⟨_, hg, ?_⟩
    simp [e0, e1, e5, h, w0, w1, w2, w3, f0, f1, f2, f3]
    refine callF_fn0 (mtext_fn (by omega)) .str fun _ _ => ?_
    simp [e0, e1, e5, h, w0, w1, w2, w3, f0, f1, f2, f3]
    refine ⟨_, hg, ?_⟩
    simp [e0, e1, e5, h, w0, w1, w2, w3, f0, f1, f2, f3]
    refine callF_fn0 (mtext_fn (by omega)) .str fun _ _ => ?_
    simp [e0, e1, e5, h, w0, w1, w2, w3, f0, f1, f2, f3]
    refine ⟨_, hg, ?_⟩
    simp [e0, e1, e5, h, w0, w1, w2, w3, f0, f1, f2, f3]
    refine ⟨_, hg, ?_⟩
    simp [e0, e1, e5, h, w0, w1, w2, w3, f0, f1, f2, f3]
    refine hN _ _ _ _ h (List.Sublist.refl _) ⟨by simp [upd, e0], ?_, by simp [upd]; exact step64 (by unfold mx; omega) h, rfl⟩
    simp [upd, w0, w1, w2, w3, hst]; omega
  · have h1 : i = l.length := by omega
    subst h1
    refine fin_plain ⟨?_, rfl⟩
    rw [← hjj]; simp
theorem heldSession_fn {s : SL TSession} (hz : szL cSession s.list ≤ 16777216) {k : Int} (hk : 0 ≤ k ∧ k ≤ 1099511627776) :
    Fnc Tryz.prog 46 [(s.marks mkSession cSession k).av 4 TSession.enc, .int .i64 k] (.int .i64 (k + szL cSession s.list)) := by
  cases s with
  | nil =>
    have := heldSession_nil k
    simpa [SL.av, SL.marks, szL] using this
  | mk t l => exact heldSession_fn1 (l := l) hz hk t
theorem heldPair_nil (k : Int) : Fnc Tryz.prog 90 [.nsl, .int .i64 k] (.int .i64 k) := by
  refine fn_of c90 (by simp [F90]) fun c => ?_
  unfold F90
  simp
  refine loop_drop 0 (fun i e H c' => e 0 = .nsl ∧ e 1 = .int .i64 k ∧ e 5 = .int .i64 0 ∧ H = []) ⟨rfl, rfl, rfl, rfl⟩ ?_
  intro i e H c hi ⟨e0, e1, e5, hH⟩ N hN
  subst hH
  simp [e0, e1, e5]
  exact fin_plain ⟨rfl, rfl⟩
set_option maxHeartbeats 4000000 in
theorem heldPair_fn1 {l : List TPair} (hz : szL cPair l ≤ 16777216) {k : Int} (hk : 0 ≤ k ∧ k ≤ 1099511627776) (t : Nat) :
    Fnc Tryz.prog 90 [(SL.mk t (mks mkPair cPair k l)).av 2 TPair.enc, .int .i64 k] (.int .i64 (k + szL cPair l)) := by
  have hln := szL_cPair l
  refine fn_of c90 (by simp [F90]) fun c => ?_
  unfold F90
  simp
  have hlen := mks_len mkPair cPair k l
  refine loop_drop l.length (fun i e H c' => e 0 = (SL.mk t (mks mkPair cPair k l)).av 2 TPair.enc ∧ e 1 = .int .i64 (k + szL cPair (l.take i)) ∧ e 5 = .int .i64 i ∧ H = []) ⟨rfl, by simp [szL], rfl, rfl⟩ ?_
  intro i e H c hi ⟨e0, e1, e5, hH⟩ N hN
  subst hH
  have hg := fun h : i < l.length => mks_get mkPair cPair k l h
  have hst := fun h : i < l.length => szL_step cPair l h
  have hle := szL_le cPair l i
  have hle' := szL_le cPair l (i + 1)
  generalize hjj : k + (szL cPair (l.take i) : Int) = j at e1 hg
  simp [e0, e1, e5, hlen]
  refine ⟨fun h => ?_, fun h => ?_⟩
  · have hg := hg h
    have hst := hst h
    have hx := szL_mem (sz := cPair) (List.getElem_mem h)
    generalize l[i] = x at hg hst hx
    simp only [cPair] at hx hst
    have w0 : IntKind.i64.wrap (j + 1) = j + 1 := wrap64 (by omega) (by omega)
    have f0 : (mkPair j x).Name = mtext (j) := rfl
    have w1 : IntKind.i64.wrap (j + 1 + 1) = j + 1 + 1 := wrap64 (by omega) (by omega)
    have f1 : (mkPair j x).Value = mtext (j + 1) := rfl
    refine ⟨_, hg, ?_⟩
    simp [e0, e1, e5, h, w0, w1, f0, f1]
    refine callF_fn0 (mtext_fn (by omega)) .str fun _ _ => ?_
    simp [e0, e1, e5, h, w0, w1, f0, f1]
    refine ⟨_, hg, ?_⟩
    simp [e0, e1, e5, h, w0, w1, f0, f1]
    refine callF_fn0 (mtext_fn (by omega)) .str fun _ _ => ?_
    simp [e0, e1, e5, h, w0, w1, f0, f1]
    refine hN _ _ _ _ h (List.Sublist.refl _) ⟨by simp [upd, e0], ?_, by simp [upd]; exact step64 (by unfold mx; omega) h, rfl⟩
    simp [upd, w0, w1, hst]; omega
  · have h1 : i = l.length := by omega
    subst h1
    refine fin_plain ⟨?_, rfl⟩
    rw [← hjj]; simp
theorem heldPair_fn {s : SL TPair} (hz : szL cPair s.list ≤ 16777216) {k : Int} (hk : 0 ≤ k ∧ k ≤ 1099511627776) :
    Fnc Tryz.prog 90 [(s.marks mkPair cPair k).av 2 TPair.enc, .int .i64 k] (.int .i64 (k + szL cPair s.list)) := by
  cases s with
  | nil =>
    have := heldPair_nil k
    simpa [SL.av, SL.marks, szL] using this
  | mk t l => exact heldPair_fn1 (l := l) hz hk t
theorem heldHeader_nil (k : Int) : Fnc Tryz.prog 91 [.nsl, .int .i64 k] (.int .i64 k) := by
  refine fn_of c91 (by simp [F91]) fun c => ?_
  unfold F91
  simp
  refine loop_drop 0 (fun i e H c' => e 0 = .nsl ∧ e 1 = .int .i64 k ∧ e 5 = .int .i64 0 ∧ H = []) ⟨rfl, rfl, rfl, rfl⟩ ?_
  intro i e H c hi ⟨e0, e1, e5, hH⟩ N hN
  subst hH
  simp [e0, e1, e5]
  exact fin_plain ⟨rfl, rfl⟩
set_option maxHeartbeats 4000000 in
theorem heldHeader_fn1 {l : List THeader} (hz : szL cHeader l ≤ 16777216) {k : Int} (hk : 0 ≤ k ∧ k ≤ 1099511627776) (t : Nat) :
    Fnc Tryz.prog 91 [(SL.mk t (mks mkHeader cHeader k l)).av 2 THeader.enc, .int .i64 k] (.int .i64 (k + szL cHeader l)) := by
  have hln := szL_cHeader l
  refine fn_of c91 (by simp [F91]) fun c => ?_
  unfold F91
  simp
  have hlen := mks_len mkHeader cHeader k l
  refine loop_drop l.length (fun i e H c' => e 0 = (SL.mk t (mks mkHeader cHeader k l)).av 2 THeader.enc ∧ e 1 = .int .i64 (k + szL cHeader (l.take i)) ∧ e 5 = .int .i64 i ∧ H = []) ⟨rfl, by simp [szL], rfl, rfl⟩ ?_
  intro i e H c hi ⟨e0, e1, e5, hH⟩ N hN
  subst hH
  have hg := fun h : i < l.length => mks_get mkHeader cHeader k l h
  have hst := fun h : i < l.length => szL_step cHeader l h
  have hle := szL_le cHeader l i
  have hle' := szL_le cHeader l (i + 1)
  generalize hjj : k + (szL cHeader (l.take i) : Int) = j at e1 hg
  simp [e0, e1, e5, hlen]
  refine ⟨fun h => ?_, fun h => ?_⟩
  · have hg := hg h
    have hst := hst h
    have hx := szL_mem (sz := cHeader) (List.getElem_mem h)
    generalize l[i] = x at hg hst hx
    simp only [cHeader] at hx hst
    have w0 : IntKind.i64.wrap (j + 1) = j + 1 := wrap64 (by omega) (by omega)
    have f0 : (mkHeader j x).Name = mtext (j) := rfl
    have w1 : IntKind.i64.wrap (j + 1 + 1) = j + 1 + 1 := wrap64 (by omega) (by omega)
    have f1 : (mkHeader j x).Value = mtext (j + 1) := rfl
    refine ⟨_, hg, ?_⟩
    simp [e0, e1, e5, h, w0, w1, f0, f1]
    refine callF_fn0 (mtext_fn (by omega)) .str fun _ _ => ?_
    simp [e0, e1, e5, h, w0, w1, f0, f1]
    refine ⟨_, hg, ?_⟩
    simp [e0, e1, e5, h, w0, w1, f0, f1]
    refine callF_fn0 (mtext_fn (by omega)) .str fun _ _ => ?_
    simp [e0, e1, e5, h, w0, w1, f0, f1]
    refine hN _ _ _ _ h (List.Sublist.refl _) ⟨by simp [upd, e0], ?_, by simp [upd]; exact step64 (by unfold mx; omega) h, rfl⟩
    simp [upd, w0, w1, hst]; omega
  · have h1 : i = l.length := by omega
    subst h1
    refine fin_plain ⟨?_, rfl⟩
    rw [← hjj]; simp
theorem heldHeader_fn {s : SL THeader} (hz : szL cHeader s.list ≤ 16777216) {k : Int} (hk : 0 ≤ k ∧ k ≤ 1099511627776) :
    Fnc Tryz.prog 91 [(s.marks mkHeader cHeader k).av 2 THeader.enc, .int .i64 k] (.int .i64 (k + szL cHeader s.list)) := by
  cases s with
  | nil =>
    have := heldHeader_nil k
    simpa [SL.av, SL.marks, szL] using this
  | mk t l => exact heldHeader_fn1 (l := l) hz hk t
theorem heldJob_nil (k : Int) : Fnc Tryz.prog 47 [.nsl, .int .i64 k] (.int .i64 k) := by
  refine fn_of c47 (by simp [F47]) fun c => ?_
  unfold F47
  simp
  refine loop_drop 0 (fun i e H c' => e 0 = .nsl ∧ e 1 = .int .i64 k ∧ e 5 = .int .i64 0 ∧ H = []) ⟨rfl, rfl, rfl, rfl⟩ ?_
  intro i e H c hi ⟨e0, e1, e5, hH⟩ N hN
  subst hH
  simp [e0, e1, e5]
  exact fin_plain ⟨rfl, rfl⟩
set_option maxHeartbeats 4000000 in
theorem heldJob_fn1 {l : List TJob} (hz : szL cJob l ≤ 16777216) {k : Int} (hk : 0 ≤ k ∧ k ≤ 549755813888) (t : Nat) :
    Fnc Tryz.prog 47 [(SL.mk t (mks mkJob cJob k l)).av 5 TJob.enc, .int .i64 k] (.int .i64 (k + szL cJob l)) := by
  have hln := szL_cJob l
  refine fn_of c47 (by simp [F47]) fun c => ?_
  unfold F47
  simp
  have hlen := mks_len mkJob cJob k l
  refine loop_drop l.length (fun i e H c' => e 0 = (SL.mk t (mks mkJob cJob k l)).av 5 TJob.enc ∧ e 1 = .int .i64 (k + szL cJob (l.take i)) ∧ e 5 = .int .i64 i ∧ H = []) ⟨rfl, by simp [szL], rfl, rfl⟩ ?_
  intro i e H c hi ⟨e0, e1, e5, hH⟩ N hN
  subst hH
  have hg := fun h : i < l.length => mks_get mkJob cJob k l h
  have hst := fun h : i < l.length => szL_step cJob l h
  have hle := szL_le cJob l i
  have hle' := szL_le cJob l (i + 1)
  generalize hjj : k + (szL cJob (l.take i) : Int) = j at e1 hg
  simp [e0, e1, e5, hlen]
  refine ⟨fun h => ?_, fun h => ?_⟩
  · have hg := hg h
    have hst := hst h
    have hx := szL_mem (sz := cJob) (List.getElem_mem h)
    generalize l[i] = x at hg hst hx
    simp only [cJob] at hx hst
    have w0 : IntKind.i64.wrap (j + 1) = j + 1 := wrap64 (by omega) (by omega)
    have f0 : (mkJob j x).Id = j := rfl
    have w1 : IntKind.i64.wrap (j + 1 + 1) = j + 1 + 1 := wrap64 (by omega) (by omega)
    have f1 : (mkJob j x).Request.Path = mtext (j + 1) := rfl
    have f2 : (mkJob j x).Request.Query = x.Request.Query.marks mkPair cPair (j + 1 + 1) := rfl
    have f3 : (mkJob j x).Request.Cookies = x.Request.Cookies.marks mkPair cPair (j + 1 + 1 + szL cPair x.Request.Query.list) := rfl
    have w4 : IntKind.i64.wrap (j + 1 + 1 + szL cPair x.Request.Query.list + szL cPair x.Request.Cookies.list + 1) = j + 1 + 1 + szL cPair x.Request.Query.list + szL cPair x.Request.Cookies.list + 1 := wrap64 (by omega) (by omega)
    have f4 : (mkJob j x).Session = mtext (j + 1 + 1 + szL cPair x.Request.Query.list + szL cPair x.Request.Cookies.list) := rfl
    have p2 : ¬ (j + 1 + 1 + szL cPair x.Request.Query.list < 0) := by omega
    have p3 : ¬ (j + 1 + 1 + szL cPair x.Request.Query.list + szL cPair x.Request.Cookies.list < 0) := by omega
    refine ⟨_, hg, ?_⟩
    simp [e0, e1, e5, h, w0, w1, w4, f0, f1, f2, f3, f4, p2, p3]
    refine ⟨_, hg, ?_⟩
    simp [e0, e1, e5, h, w0, w1, w4, f0, f1, f2, f3, f4, p2, p3]
    refine callF_fn0 (mtext_fn (by omega)) .str fun _ _ => ?_
    simp [e0, e1, e5, h, w0, w1, w4, f0, f1, f2, f3, f4, p2, p3]
    refine ⟨_, hg, ?_⟩
    simp [e0, e1, e5, h, w0, w1, w4, f0, f1, f2, f3, f4, p2, p3]
    refine call_fn0 (heldPair_fn (s := x.Request.Query) (by omega) (k := j + 1 + 1) ⟨by omega, by omega⟩) .int fun _ _ => ?_
    simp [e0, e1, e5, h, w0, w1, w4, f0, f1, f2, f3, f4, p2, p3]
    refine ⟨_, hg, ?_⟩
    simp [e0, e1, e5, h, w0, w1, w4, f0, f1, f2, f3, f4, p2, p3]
    refine call_fn0 (heldPair_fn (s := x.Request.Cookies) (by omega) (k := j + 1 + 1 + szL cPair x.Request.Query.list) ⟨by omega, by omega⟩) .int fun _ _ => ?_
    simp [e0, e1, e5, h, w0, w1, w4, f0, f1, f2, f3, f4, p2, p3]
    refine ⟨_, hg, ?_⟩
    simp [e0, e1, e5, h, w0, w1, w4, f0, f1, f2, f3, f4, p2, p3]
    refine callF_fn0 (mtext_fn (by omega)) .str fun _ _ => ?_
    simp [e0, e1, e5, h, w0, w1, w4, f0, f1, f2, f3, f4, p2, p3]
    refine hN _ _ _ _ h (List.Sublist.refl _) ⟨by simp [upd, e0], ?_, by simp [upd]; exact step64 (by unfold mx; omega) h, rfl⟩
    simp [upd, w0, w1, w4, hst]; omega
  · have h1 : i = l.length := by omega
    subst h1
    refine fin_plain ⟨?_, rfl⟩
    rw [← hjj]; simp
theorem heldJob_fn {s : SL TJob} (hz : szL cJob s.list ≤ 16777216) {k : Int} (hk : 0 ≤ k ∧ k ≤ 549755813888) :
    Fnc Tryz.prog 47 [(s.marks mkJob cJob k).av 5 TJob.enc, .int .i64 k] (.int .i64 (k + szL cJob s.list)) := by
  cases s with
  | nil =>
    have := heldJob_nil k
    simpa [SL.av, SL.marks, szL] using this
  | mk t l => exact heldJob_fn1 (l := l) hz hk t
theorem heldWorker_nil (k : Int) : Fnc Tryz.prog 48 [.nsl, .int .i64 k] (.int .i64 k) := by
  refine fn_of c48 (by simp [F48]) fun c => ?_
  unfold F48
  simp
  refine loop_drop 0 (fun i e H c' => e 0 = .nsl ∧ e 1 = .int .i64 k ∧ e 5 = .int .i64 0 ∧ H = []) ⟨rfl, rfl, rfl, rfl⟩ ?_
  intro i e H c hi ⟨e0, e1, e5, hH⟩ N hN
  subst hH
  simp [e0, e1, e5]
  exact fin_plain ⟨rfl, rfl⟩
set_option maxHeartbeats 4000000 in
theorem heldWorker_fn1 {l : List TWorker} (hz : szL cWorker l ≤ 16777216) {k : Int} (hk : 0 ≤ k ∧ k ≤ 549755813888) (t : Nat) :
    Fnc Tryz.prog 48 [(SL.mk t (mks mkWorker cWorker k l)).av 9 TWorker.enc, .int .i64 k] (.int .i64 (k + szL cWorker l)) := by
  have hln := szL_cWorker l
  refine fn_of c48 (by simp [F48]) fun c => ?_
  unfold F48
  simp
  have hlen := mks_len mkWorker cWorker k l
  refine loop_drop l.length (fun i e H c' => e 0 = (SL.mk t (mks mkWorker cWorker k l)).av 9 TWorker.enc ∧ e 1 = .int .i64 (k + szL cWorker (l.take i)) ∧ e 5 = .int .i64 i ∧ H = []) ⟨rfl, by simp [szL], rfl, rfl⟩ ?_
  intro i e H c hi ⟨e0, e1, e5, hH⟩ N hN
  subst hH
  have hg := fun h : i < l.length => mks_get mkWorker cWorker k l h
  have hst := fun h : i < l.length => szL_step cWorker l h
  have hle := szL_le cWorker l i
  have hle' := szL_le cWorker l (i + 1)
  generalize hjj : k + (szL cWorker (l.take i) : Int) = j at e1 hg
  simp [e0, e1, e5, hlen]
  refine ⟨fun h => ?_, fun h => ?_⟩
  · have hg := hg h
    have hst := hst h
    have hx := szL_mem (sz := cWorker) (List.getElem_mem h)
    generalize l[i] = x at hg hst hx
    simp only [cWorker] at hx hst
    have w0 : IntKind.i64.wrap (j + 1) = j + 1 := wrap64 (by omega) (by omega)
    have f0 : (mkWorker j x).State = j := rfl
    have w1 : IntKind.i64.wrap (j + 1 + 1) = j + 1 + 1 := wrap64 (by omega) (by omega)
    have f1 : (mkWorker j x).Job.Id = j + 1 := rfl
    have w2 : IntKind.i64.wrap (j + 1 + 1 + 1) = j + 1 + 1 + 1 := wrap64 (by omega) (by omega)
    have f2 : (mkWorker j x).Job.Request.Path = mtext (j + 1 + 1) := rfl
    have f3 : (mkWorker j x).Job.Request.Query = x.Job.Request.Query.marks mkPair cPair (j + 1 + 1 + 1) := rfl
    have f4 : (mkWorker j x).Job.Request.Cookies = x.Job.Request.Cookies.marks mkPair cPair (j + 1 + 1 + 1 + szL cPair x.Job.Request.Query.list) := rfl
    have w5 : IntKind.i64.wrap (j + 1 + 1 + 1 + szL cPair x.Job.Request.Query.list + szL cPair x.Job.Request.Cookies.list + 1) = j + 1 + 1 + 1 + szL cPair x.Job.Request.Query.list + szL cPair x.Job.Request.Cookies.list + 1 := wrap64 (by omega) (by omega)
    have f5 : (mkWorker j x).Job.Session = mtext (j + 1 + 1 + 1 + szL cPair x.Job.Request.Query.list + szL cPair x.Job.Request.Cookies.list) := rfl
    have w6 : IntKind.i64.wrap (j + 1 + 1 + 1 + szL cPair x.Job.Request.Query.list + szL cPair x.Job.Request.Cookies.list + 1 + 1) = j + 1 + 1 + 1 + szL cPair x.Job.Request.Query.list + szL cPair x.Job.Request.Cookies.list + 1 + 1 := wrap64 (by omega) (by omega)
    have f6 : (mkWorker j x).Data = mtext (j + 1 + 1 + 1 + szL cPair x.Job.Request.Query.list + szL cPair x.Job.Request.Cookies.list + 1) := rfl
    have f7 : (mkWorker j x).Files = x.Files.marks mkFile cFile (j + 1 + 1 + 1 + szL cPair x.Job.Request.Query.list + szL cPair x.Job.Request.Cookies.list + 1 + 1) := rfl
    have w8 : IntKind.i64.wrap (j + 1 + 1 + 1 + szL cPair x.Job.Request.Query.list + szL cPair x.Job.Request.Cookies.list + 1 + 1 + szL cFile x.Files.list + 1) = j + 1 + 1 + 1 + szL cPair x.Job.Request.Query.list + szL cPair x.Job.Request.Cookies.list + 1 + 1 + szL cFile x.Files.list + 1 := wrap64 (by omega) (by omega)
    have f8 : (mkWorker j x).Served = j + 1 + 1 + 1 + szL cPair x.Job.Request.Query.list + szL cPair x.Job.Request.Cookies.list + 1 + 1 + szL cFile x.Files.list := rfl
    have p3 : ¬ (j + 1 + 1 + 1 + szL cPair x.Job.Request.Query.list < 0) := by omega
    have p4 : ¬ (j + 1 + 1 + 1 + szL cPair x.Job.Request.Query.list + szL cPair x.Job.Request.Cookies.list < 0) := by omega
    have p7 : ¬ (j + 1 + 1 + 1 + szL cPair x.Job.Request.Query.list + szL cPair x.Job.Request.Cookies.list + 1 + 1 + szL cFile x.Files.list < 0) := by omega
    refine ⟨_, hg, ?_⟩
    simp [e0, e1, e5, h, w0, w1, w2, w5, w6, w8, f0, f1, f2, f3, f4, f5, f6, f7, f8, p3, p4, p7]
    refine ⟨_, hg, ?_⟩
    simp [e0, e1, e5, h, w0, w1, w2, w5, w6, w8, f0, f1, f2, f3, f4, f5, f6, f7, f8, p3, p4, p7]
    refine ⟨_, hg, ?_⟩
    simp [e0, e1, e5, h, w0, w1, w2, w5, w6, w8, f0, f1, f2, f3, f4, f5, f6, f7, f8, p3, p4, p7]
    refine callF_fn0 (mtext_fn (by omega)) .str fun _ _ => ?_
    simp [e0, e1, e5, h, w0, w1, w2, w5, w6, w8, f0, f1, f2, f3, f4, f5, f6, f7, f8, p3, p4, p7]
    refine ⟨_, hg, ?_⟩
    simp [e0, e1, e5, h, w0, w1, w2, w5, w6, w8, f0, f1, f2, f3, f4, f5, f6, f7, f8, p3, p4, p7]
    refine call_fn0 (heldPair_fn (s := x.Job.Request.Query) (by omega) (k := j + 1 + 1 + 1) ⟨by omega, by omega⟩) .int fun _ _ => ?_
    simp [e0, e1, e5, h, w0, w1, w2, w5, w6, w8, f0, f1, f2, f3, f4, f5, f6, f7, f8, p3, p4, p7]
    refine ⟨_, hg, ?_⟩
    simp [e0, e1, e5, h, w0, w1, w2, w5, w6, w8, f0, f1, f2, f3, f4, f5, f6, f7, f8, p3, p4, p7]
    refine call_fn0 (heldPair_fn (s := x.Job.Request.Cookies) (by omega) (k := j + 1 + 1 + 1 + szL cPair x.Job.Request.Query.list) ⟨by omega, by omega⟩) .int fun _ _ => ?_
    simp [e0, e1, e5, h, w0, w1, w2, w5, w6, w8, f0, f1, f2, f3, f4, f5, f6, f7, f8, p3, p4, p7]
    refine ⟨_, hg, ?_⟩
    simp [e0, e1, e5, h, w0, w1, w2, w5, w6, w8, f0, f1, f2, f3, f4, f5, f6, f7, f8, p3, p4, p7]
    refine callF_fn0 (mtext_fn (by omega)) .str fun _ _ => ?_
    simp [e0, e1, e5, h, w0, w1, w2, w5, w6, w8, f0, f1, f2, f3, f4, f5, f6, f7, f8, p3, p4, p7]
    refine ⟨_, hg, ?_⟩
    simp [e0, e1, e5, h, w0, w1, w2, w5, w6, w8, f0, f1, f2, f3, f4, f5, f6, f7, f8, p3, p4, p7]
    refine callF_fn0 (mtext_fn (by omega)) .str fun _ _ => ?_
    simp [e0, e1, e5, h, w0, w1, w2, w5, w6, w8, f0, f1, f2, f3, f4, f5, f6, f7, f8, p3, p4, p7]
    refine ⟨_, hg, ?_⟩
    simp [e0, e1, e5, h, w0, w1, w2, w5, w6, w8, f0, f1, f2, f3, f4, f5, f6, f7, f8, p3, p4, p7]
    refine call_fn0 (heldFile_fn (s := x.Files) (by omega) (k := j + 1 + 1 + 1 + szL cPair x.Job.Request.Query.list + szL cPair x.Job.Request.Cookies.list + 1 + 1) ⟨by omega, by omega⟩) .int fun _ _ => ?_
    simp [e0, e1, e5, h, w0, w1, w2, w5, w6, w8, f0, f1, f2, f3, f4, f5, f6, f7, f8, p3, p4, p7]
    refine ⟨_, hg, ?_⟩
    simp [e0, e1, e5, h, w0, w1, w2, w5, w6, w8, f0, f1, f2, f3, f4, f5, f6, f7, f8, p3, p4, p7]
    refine hN _ _ _ _ h (List.Sublist.refl _) ⟨by simp [upd, e0], ?_, by simp [upd]; exact step64 (by unfold mx; omega) h, rfl⟩
    simp [upd, w0, w1, w2, w5, w6, w8, hst]; omega
  · have h1 : i = l.length := by omega
    subst h1
    refine fin_plain ⟨?_, rfl⟩
    rw [← hjj]; simp
theorem heldWorker_fn {s : SL TWorker} (hz : szL cWorker s.list ≤ 16777216) {k : Int} (hk : 0 ≤ k ∧ k ≤ 549755813888) :
    Fnc Tryz.prog 48 [(s.marks mkWorker cWorker k).av 9 TWorker.enc, .int .i64 k] (.int .i64 (k + szL cWorker s.list)) := by
  cases s with
  | nil =>
    have := heldWorker_nil k
    simpa [SL.av, SL.marks, szL] using this
  | mk t l => exact heldWorker_fn1 (l := l) hz hk t
theorem heldAnswer_nil (k : Int) : Fnc Tryz.prog 49 [.nsl, .int .i64 k] (.int .i64 k) := by
  refine fn_of c49 (by simp [F49]) fun c => ?_
  unfold F49
  simp
  refine loop_drop 0 (fun i e H c' => e 0 = .nsl ∧ e 1 = .int .i64 k ∧ e 5 = .int .i64 0 ∧ H = []) ⟨rfl, rfl, rfl, rfl⟩ ?_
  intro i e H c hi ⟨e0, e1, e5, hH⟩ N hN
  subst hH
  simp [e0, e1, e5]
  exact fin_plain ⟨rfl, rfl⟩
set_option maxHeartbeats 4000000 in
theorem heldAnswer_fn1 {l : List TAnswer} (hz : szL cAnswer l ≤ 16777216) {k : Int} (hk : 0 ≤ k ∧ k ≤ 549755813888) (t : Nat) :
    Fnc Tryz.prog 49 [(SL.mk t (mks mkAnswer cAnswer k l)).av 11 TAnswer.enc, .int .i64 k] (.int .i64 (k + szL cAnswer l)) := by
  have hln := szL_cAnswer l
  refine fn_of c49 (by simp [F49]) fun c => ?_
  unfold F49
  simp
  have hlen := mks_len mkAnswer cAnswer k l
  refine loop_drop l.length (fun i e H c' => e 0 = (SL.mk t (mks mkAnswer cAnswer k l)).av 11 TAnswer.enc ∧ e 1 = .int .i64 (k + szL cAnswer (l.take i)) ∧ e 5 = .int .i64 i ∧ H = []) ⟨rfl, by simp [szL], rfl, rfl⟩ ?_
  intro i e H c hi ⟨e0, e1, e5, hH⟩ N hN
  subst hH
  have hg := fun h : i < l.length => mks_get mkAnswer cAnswer k l h
  have hst := fun h : i < l.length => szL_step cAnswer l h
  have hle := szL_le cAnswer l i
  have hle' := szL_le cAnswer l (i + 1)
  generalize hjj : k + (szL cAnswer (l.take i) : Int) = j at e1 hg
  simp [e0, e1, e5, hlen]
  refine ⟨fun h => ?_, fun h => ?_⟩
  · have hg := hg h
    have hst := hst h
    have hx := szL_mem (sz := cAnswer) (List.getElem_mem h)
    generalize l[i] = x at hg hst hx
    simp only [cAnswer] at hx hst
    have w0 : IntKind.i64.wrap (j + 1) = j + 1 := wrap64 (by omega) (by omega)
    have f0 : (mkAnswer j x).Id = j := rfl
    have w1 : IntKind.i64.wrap (j + 1 + 1) = j + 1 + 1 := wrap64 (by omega) (by omega)
    have f1 : (mkAnswer j x).Session = mtext (j + 1) := rfl
    have f2 : (mkAnswer j x).Files = x.Files.marks mkFile cFile (j + 1 + 1) := rfl
    have w3 : IntKind.i64.wrap (j + 1 + 1 + szL cFile x.Files.list + 1) = j + 1 + 1 + szL cFile x.Files.list + 1 := wrap64 (by omega) (by omega)
    have f3 : (mkAnswer j x).Request.Path = mtext (j + 1 + 1 + szL cFile x.Files.list) := rfl
    have f4 : (mkAnswer j x).Request.Query = x.Request.Query.marks mkPair cPair (j + 1 + 1 + szL cFile x.Files.list + 1) := rfl
    have f5 : (mkAnswer j x).Request.Cookies = x.Request.Cookies.marks mkPair cPair (j + 1 + 1 + szL cFile x.Files.list + 1 + szL cPair x.Request.Query.list) := rfl
    have w6 : IntKind.i64.wrap (j + 1 + 1 + szL cFile x.Files.list + 1 + szL cPair x.Request.Query.list + szL cPair x.Request.Cookies.list + 1) = j + 1 + 1 + szL cFile x.Files.list + 1 + szL cPair x.Request.Query.list + szL cPair x.Request.Cookies.list + 1 := wrap64 (by omega) (by omega)
    have f6 : (mkAnswer j x).Before = mtext (j + 1 + 1 + szL cFile x.Files.list + 1 + szL cPair x.Request.Query.list + szL cPair x.Request.Cookies.list) := rfl
    have w7 : IntKind.i64.wrap (j + 1 + 1 + szL cFile x.Files.list + 1 + szL cPair x.Request.Query.list + szL cPair x.Request.Cookies.list + 1 + 1) = j + 1 + 1 + szL cFile x.Files.list + 1 + szL cPair x.Request.Query.list + szL cPair x.Request.Cookies.list + 1 + 1 := wrap64 (by omega) (by omega)
    have f7 : (mkAnswer j x).Response.Code = j + 1 + 1 + szL cFile x.Files.list + 1 + szL cPair x.Request.Query.list + szL cPair x.Request.Cookies.list + 1 := rfl
    have f8 : (mkAnswer j x).Response.Headers = x.Response.Headers.marks mkHeader cHeader (j + 1 + 1 + szL cFile x.Files.list + 1 + szL cPair x.Request.Query.list + szL cPair x.Request.Cookies.list + 1 + 1) := rfl
    have w9 : IntKind.i64.wrap (j + 1 + 1 + szL cFile x.Files.list + 1 + szL cPair x.Request.Query.list + szL cPair x.Request.Cookies.list + 1 + 1 + szL cHeader x.Response.Headers.list + 1) = j + 1 + 1 + szL cFile x.Files.list + 1 + szL cPair x.Request.Query.list + szL cPair x.Request.Cookies.list + 1 + 1 + szL cHeader x.Response.Headers.list + 1 := wrap64 (by omega) (by omega)
    have f9 : (mkAnswer j x).Response.Body = mtext (j + 1 + 1 + szL cFile x.Files.list + 1 + szL cPair x.Request.Query.list + szL cPair x.Request.Cookies.list + 1 + 1 + szL cHeader x.Response.Headers.list) := rfl
    have w10 : IntKind.i64.wrap (j + 1 + 1 + szL cFile x.Files.list + 1 + szL cPair x.Request.Query.list + szL cPair x.Request.Cookies.list + 1 + 1 + szL cHeader x.Response.Headers.list + 1 + 1) = j + 1 + 1 + szL cFile x.Files.list + 1 + szL cPair x.Request.Query.list + szL cPair x.Request.Cookies.list + 1 + 1 + szL cHeader x.Response.Headers.list + 1 + 1 := wrap64 (by omega) (by omega)
    have f10 : (mkAnswer j x).After = mtext (j + 1 + 1 + szL cFile x.Files.list + 1 + szL cPair x.Request.Query.list + szL cPair x.Request.Cookies.list + 1 + 1 + szL cHeader x.Response.Headers.list + 1) := rfl
    have p2 : ¬ (j + 1 + 1 + szL cFile x.Files.list < 0) := by omega
    have p4 : ¬ (j + 1 + 1 + szL cFile x.Files.list + 1 + szL cPair x.Request.Query.list < 0) := by omega
    have p5 : ¬ (j + 1 + 1 + szL cFile x.Files.list + 1 + szL cPair x.Request.Query.list + szL cPair x.Request.Cookies.list < 0) := by omega
    have p8 : ¬ (j + 1 + 1 + szL cFile x.Files.list + 1 + szL cPair x.Request.Query.list + szL cPair x.Request.Cookies.list + 1 + 1 + szL cHeader x.Response.Headers.list < 0) := by omega
    refine ⟨_, hg, ?_⟩
    simp [e0, e1, e5, h, w0, w1, w3, w6, w7, w9, w10, f0, f1, f2, f3, f4, f5, f6, f7, f8, f9, f10, p2, p4, p5, p8]
    refine ⟨_, hg, ?_⟩
    simp [e0, e1, e5, h, w0, w1, w3, w6, w7, w9, w10, f0, f1, f2, f3, f4, f5, f6, f7, f8, f9, f10, p2, p4, p5, p8]
    refine callF_fn0 (mtext_fn (by omega)) .str fun _ _ => ?_
    simp [e0, e1, e5, h, w0, w1, w3, w6, w7, w9, w10, f0, f1, f2, f3, f4, f5, f6, f7, f8, f9, f10, p2, p4, p5, p8]
    refine ⟨_, hg, ?_⟩
    simp [e0, e1, e5, h, w0, w1, w3, w6, w7, w9, w10, f0, f1, f2, f3, f4, f5, f6, f7, f8, f9, f10, p2, p4, p5, p8]
    refine call_fn0 (heldFile_fn (s := x.Files) (by omega) (k := j + 1 + 1) ⟨by omega, by omega⟩) .int fun _ _ => ?_
    simp [e0, e1, e5, h, w0, w1, w3, w6, w7, w9, w10, f0, f1, f2, f3, f4, f5, f6, f7, f8, f9, f10, p2, p4, p5, p8]
    refine ⟨_, hg, ?_⟩
    simp [e0, e1, e5, h, w0, w1, w3, w6, w7, w9, w10, f0, f1, f2, f3, f4, f5, f6, f7, f8, f9, f10, p2, p4, p5, p8]
    refine callF_fn0 (mtext_fn (by omega)) .str fun _ _ => ?_
    simp [e0, e1, e5, h, w0, w1, w3, w6, w7, w9, w10, f0, f1, f2, f3, f4, f5, f6, f7, f8, f9, f10, p2, p4, p5, p8]
    refine ⟨_, hg, ?_⟩
    simp [e0, e1, e5, h, w0, w1, w3, w6, w7, w9, w10, f0, f1, f2, f3, f4, f5, f6, f7, f8, f9, f10, p2, p4, p5, p8]
    refine call_fn0 (heldPair_fn (s := x.Request.Query) (by omega) (k := j + 1 + 1 + szL cFile x.Files.list + 1) ⟨by omega, by omega⟩) .int fun _ _ => ?_
    simp [e0, e1, e5, h, w0, w1, w3, w6, w7, w9, w10, f0, f1, f2, f3, f4, f5, f6, f7, f8, f9, f10, p2, p4, p5, p8]
    refine ⟨_, hg, ?_⟩
    simp [e0, e1, e5, h, w0, w1, w3, w6, w7, w9, w10, f0, f1, f2, f3, f4, f5, f6, f7, f8, f9, f10, p2, p4, p5, p8]
    refine call_fn0 (heldPair_fn (s := x.Request.Cookies) (by omega) (k := j + 1 + 1 + szL cFile x.Files.list + 1 + szL cPair x.Request.Query.list) ⟨by omega, by omega⟩) .int fun _ _ => ?_
    simp [e0, e1, e5, h, w0, w1, w3, w6, w7, w9, w10, f0, f1, f2, f3, f4, f5, f6, f7, f8, f9, f10, p2, p4, p5, p8]
    refine ⟨_, hg, ?_⟩
    simp [e0, e1, e5, h, w0, w1, w3, w6, w7, w9, w10, f0, f1, f2, f3, f4, f5, f6, f7, f8, f9, f10, p2, p4, p5, p8]
    refine callF_fn0 (mtext_fn (by omega)) .str fun _ _ => ?_
    simp [e0, e1, e5, h, w0, w1, w3, w6, w7, w9, w10, f0, f1, f2, f3, f4, f5, f6, f7, f8, f9, f10, p2, p4, p5, p8]
    refine ⟨_, hg, ?_⟩
    simp [e0, e1, e5, h, w0, w1, w3, w6, w7, w9, w10, f0, f1, f2, f3, f4, f5, f6, f7, f8, f9, f10, p2, p4, p5, p8]
    refine ⟨_, hg, ?_⟩
    simp [e0, e1, e5, h, w0, w1, w3, w6, w7, w9, w10, f0, f1, f2, f3, f4, f5, f6, f7, f8, f9, f10, p2, p4, p5, p8]
    refine call_fn0 (heldHeader_fn (s := x.Response.Headers) (by omega) (k := j + 1 + 1 + szL cFile x.Files.list + 1 + szL cPair x.Request.Query.list + szL cPair x.Request.Cookies.list + 1 + 1) ⟨by omega, by omega⟩) .int fun _ _ => ?_
    simp [e0, e1, e5, h, w0, w1, w3, w6, w7, w9, w10, f0, f1, f2, f3, f4, f5, f6, f7, f8, f9, f10, p2, p4, p5, p8]
    refine ⟨_, hg, ?_⟩
    simp [e0, e1, e5, h, w0, w1, w3, w6, w7, w9, w10, f0, f1, f2, f3, f4, f5, f6, f7, f8, f9, f10, p2, p4, p5, p8]
    refine callF_fn0 (mtext_fn (by omega)) .str fun _ _ => ?_
    simp [e0, e1, e5, h, w0, w1, w3, w6, w7, w9, w10, f0, f1, f2, f3, f4, f5, f6, f7, f8, f9, f10, p2, p4, p5, p8]
    refine ⟨_, hg, ?_⟩
    simp [e0, e1, e5, h, w0, w1, w3, w6, w7, w9, w10, f0, f1, f2, f3, f4, f5, f6, f7, f8, f9, f10, p2, p4, p5, p8]
    refine callF_fn0 (mtext_fn (by omega)) .str fun _ _ => ?_
    simp [e0, e1, e5, h, w0, w1, w3, w6, w7, w9, w10, f0, f1, f2, f3, f4, f5, f6, f7, f8, f9, f10, p2, p4, p5, p8]
    refine hN _ _ _ _ h (List.Sublist.refl _) ⟨by simp [upd, e0], ?_, by simp [upd]; exact step64 (by unfold mx; omega) h, rfl⟩
    simp [upd, w0, w1, w3, w6, w7, w9, w10, hst]; omega
  · have h1 : i = l.length := by omega
    subst h1
    refine fin_plain ⟨?_, rfl⟩
    rw [← hjj]; simp
theorem heldAnswer_fn {s : SL TAnswer} (hz : szL cAnswer s.list ≤ 16777216) {k : Int} (hk : 0 ≤ k ∧ k ≤ 549755813888) :
    Fnc Tryz.prog 49 [(s.marks mkAnswer cAnswer k).av 11 TAnswer.enc, .int .i64 k] (.int .i64 (k + szL cAnswer s.list)) := by
  cases s with
  | nil =>
    have := heldAnswer_nil k
    simpa [SL.av, SL.marks, szL] using this
  | mk t l => exact heldAnswer_fn1 (l := l) hz hk t
theorem heldServer_fn {s : TServer} (hz : szL cFile s.Files.list ≤ 8388608 ∧ szL cLine s.Lines.list ≤ 8388608 ∧ szL cSession s.Sessions.list ≤ 8388608 ∧ szL cJob s.Queue.list ≤ 8388608 ∧ szL cWorker s.Workers.list ≤ 8388608 ∧ szL cAnswer s.Done.list ≤ 8388608) (hw : ∀ x, x ∈ s.Lines.list → x.Words.list.length ≤ 1048576) {k : Int} (hk : 0 ≤ k ∧ k ≤ 1048576) :
    Fnc Tryz.prog 11 [.agg (mkServer k s).enc, .int .i64 k] (.int .i64 (k + cServer s)) := by
  obtain ⟨z1, z2, z3, z4, z5, z6⟩ := hz
  refine fn_of c11 (by simp [F11]) fun c => ?_
  unfold F11
  have f0 : (mkServer k s).Files = s.Files.marks mkFile cFile (k) := rfl
  have p0 : ¬ (k + szL cFile s.Files.list < 0) := by omega
  have f1 : (mkServer k s).Lines = s.Lines.marks mkLine cLine (k + szL cFile s.Files.list) := rfl
  have p1 : ¬ (k + szL cFile s.Files.list + szL cLine s.Lines.list < 0) := by omega
  have f2 : (mkServer k s).Sessions = s.Sessions.marks mkSession cSession (k + szL cFile s.Files.list + szL cLine s.Lines.list) := rfl
  have p2 : ¬ (k + szL cFile s.Files.list + szL cLine s.Lines.list + szL cSession s.Sessions.list < 0) := by omega
  have f3 : (mkServer k s).Queue = s.Queue.marks mkJob cJob (k + szL cFile s.Files.list + szL cLine s.Lines.list + szL cSession s.Sessions.list) := rfl
  have p3 : ¬ (k + szL cFile s.Files.list + szL cLine s.Lines.list + szL cSession s.Sessions.list + szL cJob s.Queue.list < 0) := by omega
  have f4 : (mkServer k s).Workers = s.Workers.marks mkWorker cWorker (k + szL cFile s.Files.list + szL cLine s.Lines.list + szL cSession s.Sessions.list + szL cJob s.Queue.list) := rfl
  have p4 : ¬ (k + szL cFile s.Files.list + szL cLine s.Lines.list + szL cSession s.Sessions.list + szL cJob s.Queue.list + szL cWorker s.Workers.list < 0) := by omega
  have f5 : (mkServer k s).Done = s.Done.marks mkAnswer cAnswer (k + szL cFile s.Files.list + szL cLine s.Lines.list + szL cSession s.Sessions.list + szL cJob s.Queue.list + szL cWorker s.Workers.list) := rfl
  have p5 : ¬ (k + szL cFile s.Files.list + szL cLine s.Lines.list + szL cSession s.Sessions.list + szL cJob s.Queue.list + szL cWorker s.Workers.list + szL cAnswer s.Done.list < 0) := by omega
  simp [f0, p0, f1, p1, f2, p2, f3, p3, f4, p4, f5, p5]
  refine call_fn0 (heldFile_fn (s := s.Files) (by omega) (k := k) ⟨by omega, by omega⟩) .int fun _ _ => ?_
  simp [f0, p0, f1, p1, f2, p2, f3, p3, f4, p4, f5, p5]
  refine call_fn0 (heldLine_fn (s := s.Lines) (by omega) hw (k := k + szL cFile s.Files.list) ⟨by omega, by omega⟩) .int fun _ _ => ?_
  simp [f0, p0, f1, p1, f2, p2, f3, p3, f4, p4, f5, p5]
  refine call_fn0 (heldSession_fn (s := s.Sessions) (by omega) (k := k + szL cFile s.Files.list + szL cLine s.Lines.list) ⟨by omega, by omega⟩) .int fun _ _ => ?_
  simp [f0, p0, f1, p1, f2, p2, f3, p3, f4, p4, f5, p5]
  refine call_fn0 (heldJob_fn (s := s.Queue) (by omega) (k := k + szL cFile s.Files.list + szL cLine s.Lines.list + szL cSession s.Sessions.list) ⟨by omega, by omega⟩) .int fun _ _ => ?_
  simp [f0, p0, f1, p1, f2, p2, f3, p3, f4, p4, f5, p5]
  refine call_fn0 (heldWorker_fn (s := s.Workers) (by omega) (k := k + szL cFile s.Files.list + szL cLine s.Lines.list + szL cSession s.Sessions.list + szL cJob s.Queue.list) ⟨by omega, by omega⟩) .int fun _ _ => ?_
  simp [f0, p0, f1, p1, f2, p2, f3, p3, f4, p4, f5, p5]
  refine call_fn0 (heldAnswer_fn (s := s.Done) (by omega) (k := k + szL cFile s.Files.list + szL cLine s.Lines.list + szL cSession s.Sessions.list + szL cJob s.Queue.list + szL cWorker s.Workers.list) ⟨by omega, by omega⟩) .int fun _ _ => ?_
  simp [f0, p0, f1, p1, f2, p2, f3, p3, f4, p4, f5, p5]
  exact fin_plain ⟨by simp [cServer]; omega, rfl⟩
end A
end Go.Proofs.YtfcimcoanlgldaaGreat

/-
  Copies whose trees bear one tag: printed by a program (wip/tools/genat.py). No condition.
-/


namespace Go.Proofs.YtfcimcoanlgldaaGreat
namespace A
set_option linter.unusedVariables false
set_option linter.unusedSimpArgs false
set_option maxRecDepth 100000

theorem from_sl {α : Type} {enc : α → List AV} {c w : Nat} {l : List α} (h : ∀ x, x ∈ l → ∀ a, a ∈ enc x → From c a) : From c ((SL.mk c l).av w enc) :=
  from_slc (Nat.le_refl _) fun row hr a ha => by
    obtain ⟨x, hx, rfl⟩ := List.mem_map.1 hr
    exact h x hx a ha
def TFile.at (c : Nat) (s : TFile) : TFile := s
theorem TFile.at_con (c : Nat) (s : TFile) : (s.at c).con = s.con := rfl
theorem TFile.at_from (c : Nat) (s : TFile) : ∀ a, a ∈ (s.at c).enc → From c a := fun a ha => by
  simp only [TFile.enc, List.mem_cons, List.not_mem_nil, or_false] at ha
  rcases ha with rfl | rfl | rfl
  · simp
  · simp
  · simp
def TLine.at (c : Nat) (s : TLine) : TLine := { s with Words := .mk c s.Words.list }
theorem TLine.at_con (c : Nat) (s : TLine) : (s.at c).con = s.con := by
  simp [TLine.at, TLine.con, SL.con, SL.pcon, List.map_map, Function.comp_def]
theorem TLine.at_from (c : Nat) (s : TLine) : ∀ a, a ∈ (s.at c).enc → From c a := fun a ha => by
  simp only [TLine.enc, List.mem_cons, List.not_mem_nil, or_false] at ha
  rcases ha with rfl | rfl | rfl | rfl
  · simp
  · simp
  · simp
  · exact from_sl fun y hy a ha => by
      simp [encI, encS, encB] at ha; subst ha; simp
def TSession.at (c : Nat) (s : TSession) : TSession := s
theorem TSession.at_con (c : Nat) (s : TSession) : (s.at c).con = s.con := rfl
theorem TSession.at_from (c : Nat) (s : TSession) : ∀ a, a ∈ (s.at c).enc → From c a := fun a ha => by
  simp only [TSession.enc, List.mem_cons, List.not_mem_nil, or_false] at ha
  rcases ha with rfl | rfl | rfl | rfl
  · simp
  · simp
  · simp
  · simp
def TPair.at (c : Nat) (s : TPair) : TPair := s
theorem TPair.at_con (c : Nat) (s : TPair) : (s.at c).con = s.con := rfl
theorem TPair.at_from (c : Nat) (s : TPair) : ∀ a, a ∈ (s.at c).enc → From c a := fun a ha => by
  simp only [TPair.enc, List.mem_cons, List.not_mem_nil, or_false] at ha
  rcases ha with rfl | rfl
  · simp
  · simp
def TRequest.at (c : Nat) (s : TRequest) : TRequest := { s with Query := .mk c (s.Query.list.map (TPair.at c)), Cookies := .mk c (s.Cookies.list.map (TPair.at c)) }
theorem TRequest.at_con (c : Nat) (s : TRequest) : (s.at c).con = s.con := by
  simp [TRequest.at, TRequest.con, SL.con, SL.pcon, List.map_map, Function.comp_def, TPair.at_con]
theorem TRequest.at_from (c : Nat) (s : TRequest) : ∀ a, a ∈ (s.at c).enc → From c a := fun a ha => by
  simp only [TRequest.enc, List.mem_cons, List.not_mem_nil, or_false] at ha
  rcases ha with rfl | rfl | rfl
  · simp
  · exact from_sl fun y hy a ha => by
      obtain ⟨z, _, rfl⟩ := List.mem_map.1 hy
      exact TPair.at_from c z a ha
  · exact from_sl fun y hy a ha => by
      obtain ⟨z, _, rfl⟩ := List.mem_map.1 hy
      exact TPair.at_from c z a ha
def TJob.at (c : Nat) (s : TJob) : TJob := { s with Request := s.Request.at c }
theorem TJob.at_con (c : Nat) (s : TJob) : (s.at c).con = s.con := by
  simp [TJob.at, TJob.con, SL.con, SL.pcon, List.map_map, Function.comp_def, TRequest.at_con]
theorem TJob.at_from (c : Nat) (s : TJob) : ∀ a, a ∈ (s.at c).enc → From c a := fun a ha => by
  simp only [TJob.enc, List.mem_cons, List.not_mem_nil, or_false] at ha
  rcases ha with rfl | rfl | rfl | rfl | rfl
  · simp
  · exact TRequest.at_from c s.Request _ (List.mem_of_getElem? (i := 0) rfl)
  · exact TRequest.at_from c s.Request _ (List.mem_of_getElem? (i := 1) rfl)
  · exact TRequest.at_from c s.Request _ (List.mem_of_getElem? (i := 2) rfl)
  · simp
def TWorker.at (c : Nat) (s : TWorker) : TWorker := { s with Job := s.Job.at c, Files := .mk c (s.Files.list.map (TFile.at c)) }
theorem TWorker.at_con (c : Nat) (s : TWorker) : (s.at c).con = s.con := by
  simp [TWorker.at, TWorker.con, SL.con, SL.pcon, List.map_map, Function.comp_def, TFile.at_con, TJob.at_con]
theorem TWorker.at_from (c : Nat) (s : TWorker) : ∀ a, a ∈ (s.at c).enc → From c a := fun a ha => by
  simp only [TWorker.enc, List.mem_cons, List.not_mem_nil, or_false] at ha
  rcases ha with rfl | rfl | rfl | rfl | rfl | rfl | rfl | rfl | rfl
  · simp
  · exact TJob.at_from c s.Job _ (List.mem_of_getElem? (i := 0) rfl)
  · exact TJob.at_from c s.Job _ (List.mem_of_getElem? (i := 1) rfl)
  · exact TJob.at_from c s.Job _ (List.mem_of_getElem? (i := 2) rfl)
  · exact TJob.at_from c s.Job _ (List.mem_of_getElem? (i := 3) rfl)
  · exact TJob.at_from c s.Job _ (List.mem_of_getElem? (i := 4) rfl)
  · simp
  · exact from_sl fun y hy a ha => by
      obtain ⟨z, _, rfl⟩ := List.mem_map.1 hy
      exact TFile.at_from c z a ha
  · simp
def THeader.at (c : Nat) (s : THeader) : THeader := s
theorem THeader.at_con (c : Nat) (s : THeader) : (s.at c).con = s.con := rfl
theorem THeader.at_from (c : Nat) (s : THeader) : ∀ a, a ∈ (s.at c).enc → From c a := fun a ha => by
  simp only [THeader.enc, List.mem_cons, List.not_mem_nil, or_false] at ha
  rcases ha with rfl | rfl
  · simp
  · simp
def TResponse.at (c : Nat) (s : TResponse) : TResponse := { s with Headers := .mk c (s.Headers.list.map (THeader.at c)) }
theorem TResponse.at_con (c : Nat) (s : TResponse) : (s.at c).con = s.con := by
  simp [TResponse.at, TResponse.con, SL.con, SL.pcon, List.map_map, Function.comp_def, THeader.at_con]
theorem TResponse.at_from (c : Nat) (s : TResponse) : ∀ a, a ∈ (s.at c).enc → From c a := fun a ha => by
  simp only [TResponse.enc, List.mem_cons, List.not_mem_nil, or_false] at ha
  rcases ha with rfl | rfl | rfl
  · simp
  · exact from_sl fun y hy a ha => by
      obtain ⟨z, _, rfl⟩ := List.mem_map.1 hy
      exact THeader.at_from c z a ha
  · simp
def TAnswer.at (c : Nat) (s : TAnswer) : TAnswer := { s with Files := .mk c (s.Files.list.map (TFile.at c)), Request := s.Request.at c, Response := s.Response.at c }
theorem TAnswer.at_con (c : Nat) (s : TAnswer) : (s.at c).con = s.con := by
  simp [TAnswer.at, TAnswer.con, SL.con, SL.pcon, List.map_map, Function.comp_def, TFile.at_con, TRequest.at_con, TResponse.at_con]
theorem TAnswer.at_from (c : Nat) (s : TAnswer) : ∀ a, a ∈ (s.at c).enc → From c a := fun a ha => by
  simp only [TAnswer.enc, List.mem_cons, List.not_mem_nil, or_false] at ha
  rcases ha with rfl | rfl | rfl | rfl | rfl | rfl | rfl | rfl | rfl | rfl | rfl
  · simp
  · simp
  · exact from_sl fun y hy a ha => by
      obtain ⟨z, _, rfl⟩ := List.mem_map.1 hy
      exact TFile.at_from c z a ha
  · exact TRequest.at_from c s.Request _ (List.mem_of_getElem? (i := 0) rfl)
  · exact TRequest.at_from c s.Request _ (List.mem_of_getElem? (i := 1) rfl)
  · exact TRequest.at_from c s.Request _ (List.mem_of_getElem? (i := 2) rfl)
  · simp
  · exact TResponse.at_from c s.Response _ (List.mem_of_getElem? (i := 0) rfl)
  · exact TResponse.at_from c s.Response _ (List.mem_of_getElem? (i := 1) rfl)
  · exact TResponse.at_from c s.Response _ (List.mem_of_getElem? (i := 2) rfl)
  · simp
def TServer.at (c : Nat) (s : TServer) : TServer := { s with Files := .mk c (s.Files.list.map (TFile.at c)), Lines := .mk c (s.Lines.list.map (TLine.at c)), Sessions := .mk c (s.Sessions.list.map (TSession.at c)), Queue := .mk c (s.Queue.list.map (TJob.at c)), Workers := .mk c (s.Workers.list.map (TWorker.at c)), Done := .mk c (s.Done.list.map (TAnswer.at c)) }
theorem TServer.at_con (c : Nat) (s : TServer) : (s.at c).con = s.con := by
  simp [TServer.at, TServer.con, SL.con, SL.pcon, List.map_map, Function.comp_def, TAnswer.at_con, TFile.at_con, TJob.at_con, TLine.at_con, TSession.at_con, TWorker.at_con]
theorem TServer.at_from (c : Nat) (s : TServer) : ∀ a, a ∈ (s.at c).enc → From c a := fun a ha => by
  simp only [TServer.enc, List.mem_cons, List.not_mem_nil, or_false] at ha
  rcases ha with rfl | rfl | rfl | rfl | rfl | rfl | rfl | rfl
  · exact from_sl fun y hy a ha => by
      obtain ⟨z, _, rfl⟩ := List.mem_map.1 hy
      exact TFile.at_from c z a ha
  · exact from_sl fun y hy a ha => by
      obtain ⟨z, _, rfl⟩ := List.mem_map.1 hy
      exact TLine.at_from c z a ha
  · exact from_sl fun y hy a ha => by
      obtain ⟨z, _, rfl⟩ := List.mem_map.1 hy
      exact TSession.at_from c z a ha
  · exact from_sl fun y hy a ha => by
      obtain ⟨z, _, rfl⟩ := List.mem_map.1 hy
      exact TJob.at_from c z a ha
  · exact from_sl fun y hy a ha => by
      obtain ⟨z, _, rfl⟩ := List.mem_map.1 hy
      exact TWorker.at_from c z a ha
  · exact from_sl fun y hy a ha => by
      obtain ⟨z, _, rfl⟩ := List.mem_map.1 hy
      exact TAnswer.at_from c z a ha
  · simp
  · simp
end A
end Go.Proofs.YtfcimcoanlgldaaGreat

/-
  The law of ReviveWork answers true. No condition.
-/



namespace Go.Proofs.YtfcimcoanlgldaaGreat
namespace A
set_option linter.unusedVariables false
set_option linter.unusedSimpArgs false
set_option maxRecDepth 100000

@[simp] theorem getW_midY {α : Type} (A T M : List α) (X W B : α) (K : α → Prop) : getW (A ++ X :: (T ++ W :: B :: M)) (A.length + (T.length + 1 + 1)) K = K B :=
  getW_of (by rw [List.getElem?_append_right (by omega), Nat.add_sub_cancel_left, List.getElem?_cons_succ, List.getElem?_append_right (by omega)]; simp) K
theorem szL_lin {α : Type} (f g : α → Nat) (m n : Nat) (h : ∀ x, f x ≤ m + n * g x) (l : List α) : szL f l ≤ m * l.length + n * szL g l := by
  induction l with
  | nil => simp [szL]
  | cons x l ih =>
    have := h x
    simp only [szL, List.map_cons, List.sum_cons, List.length_cons, Nat.mul_add] at ih ⊢
    omega
theorem server_bounds {s : TServer} (h : s.sz ≤ 1048576) : (szL cFile s.Files.list ≤ 8388608 ∧ szL cLine s.Lines.list ≤ 8388608 ∧ szL cSession s.Sessions.list ≤ 8388608 ∧ szL cJob s.Queue.list ≤ 8388608 ∧ szL cWorker s.Workers.list ≤ 8388608 ∧ szL cAnswer s.Done.list ≤ 8388608) ∧ ∀ x, x ∈ s.Lines.list → x.Words.list.length ≤ 1048576 := by
  simp only [TServer.sz, szFileS, szLineS, szSessionS, szJobS, szWorkerS, szAnswerS] at h
  have hl := szLine_bounds (l := s.Lines.list) (by omega)
  have hj := szL_lin cJob TJob.sz 3 2 (fun x => by simp only [cJob, TJob.sz, TRequest.sz, szPairS, szL_ePair]; omega) s.Queue.list
  have hw := szL_lin cWorker TWorker.sz 6 3 (fun x => by simp only [cWorker, TWorker.sz, TJob.sz, TRequest.sz, szPairS, szFileS, szL_ePair, szL_eFile]; omega) s.Workers.list
  have ha := szL_lin cAnswer TAnswer.sz 7 3 (fun x => by simp only [cAnswer, TAnswer.sz, TRequest.sz, TResponse.sz, szPairS, szFileS, szHeaderS, szL_ePair, szL_eFile, szL_eHeader]; omega) s.Done.list
  refine ⟨⟨?_, hl.1, ?_, ?_, ?_, ?_⟩, hl.2.1⟩
  · rw [szL_eFile]; omega
  · rw [szL_eSession]; omega
  · omega
  · omega
  · omega
theorem smSrv_of {s : TServer} (h : s.sz ≤ 1048576) : SmSrv s := by
  simp only [TServer.sz, szFileS, szLineS, szSessionS, szJobS, szWorkerS, szAnswerS] at h
  refine ⟨by omega, by omega, fun x hx => ?_, by omega, by omega, fun x hx => ?_, by omega, fun x hx => ?_, by omega, fun x hx => ?_⟩
  · have := szL_mem (sz := TLine.sz) hx
    have e : x.sz = x.Words.list.length := rfl
    omega
  · have := szL_mem (sz := TJob.sz) hx
    simp only [TJob.sz, TRequest.sz, szPairS] at this
    exact ⟨by omega, by omega⟩
  · have := szL_mem (sz := TWorker.sz) hx
    simp only [TWorker.sz, TJob.sz, TRequest.sz, szPairS, szFileS] at this
    exact ⟨⟨by omega, by omega⟩, by omega⟩
  · have := szL_mem (sz := TAnswer.sz) hx
    simp only [TAnswer.sz, TResponse.sz, TRequest.sz, szPairS, szFileS, szHeaderS] at this
    exact ⟨⟨by omega, by omega⟩, by omega, by omega⟩
theorem callD_fnV {P : Program} {H : List AObj} {c : Nat} {R : AV → Prop} {f : Nat} {l l' : List AV} {K : AV → Prop} {res : AV} (hf : Fnc P f l' res) (hv : Views H l l') (hR : ∀ v, R v ↔ v = res) (hfr : ∀ c, From c res) (k : K res) : callD P R f l H c K :=
  ⟨l', hv, (fun c => (hf c).mono fun r H' c' _ ⟨h1, h2⟩ => ⟨h2, (hR r).2 h1, h1 ▸ hfr c⟩), ⟨res, (hR res).2 rfl, hfr c⟩, fun r hr _ => by rw [(hR r).1 hr]; exact k⟩
theorem mkServer_tags (k : Int) (s : TServer) : tags (mkServer k s).inn = tags s.inn := by
  have eT : ∀ X Y : List AObj, tags (X ++ Y) = tags X ++ tags Y := fun X Y => by simp [tags]
  unfold TServer.inn
  simp only [eT, mkServer]
  rw [tags_wood (inn := noInn) (mk := mkFile) (cnt := cFile) (fun _ _ => rfl), tags_wood (mk := mkLine) (cnt := cLine) mkLine_tags, tags_wood (inn := noInn) (mk := mkSession) (cnt := cSession) (fun _ _ => rfl), tags_wood (mk := mkJob) (cnt := cJob) mkJob_tags, tags_wood (mk := mkWorker) (cnt := cWorker) mkWorker_tags, tags_wood (mk := mkAnswer) (cnt := cAnswer) mkAnswer_tags]
theorem mkServer_len (k : Int) (s : TServer) : (mkServer k s).inn.length = s.inn.length := by
  have := congrArg List.length (mkServer_tags k s)
  simpa [tags] using this
theorem mkServer_encO (k : Int) (s : TServer) : (mkServer k s).encO = s.encO := by simp [TServer.encO, mkServer, SL.marks_ref]
theorem markServer_at {s : TServer} (hz : szL cFile s.Files.list ≤ 8388608 ∧ szL cLine s.Lines.list ≤ 8388608 ∧ szL cSession s.Sessions.list ≤ 8388608 ∧ szL cJob s.Queue.list ≤ 8388608 ∧ szL cWorker s.Workers.list ≤ 8388608 ∧ szL cAnswer s.Done.list ≤ 8388608) (hw : ∀ x, x ∈ s.Lines.list → x.Words.list.length ≤ 1048576)
    {A C H X : List AObj} {c : Nat} {K : AV → List AObj → Nat → Prop} (hH : H = A ++ (s.inn ++ C)) (hX : A ++ ((mkServer 1 s).inn ++ C) = X) (k : ∀ c', c ≤ c' → K (.int .i64 (1 + cServer s)) X c') : CallW Tryz.prog 10 [.agg s.encO, .int .i64 1] H c K := by
  rw [hH, ← List.append_assoc]
  refine call_mid (markServer_con hz hw (k := 1) ⟨by omega, by omega⟩ c) (Views.refl _ _) fun r B' c' hc ⟨h1, h2⟩ => ?_
  subst h1; subst h2
  exact ⟨mkServer_tags _ _, .int, fun o ho => TServer.freeI _ o ho _, by rw [List.append_assoc, hX]; exact k c' hc⟩

/-! ### what a server's tree hangs on -/
theorem wood_from {α : Type} {enc encO : α → List AV} {inn : α → List AObj} {w c : Nat} {s : SL α} (hx : ∀ x, (∀ t, t ∈ tags (inn x) → c ≤ t) → ∀ a, a ∈ enc x → From c a) (ht : ∀ t, t ∈ tags (s.wood w encO inn) → c ≤ t) : From c (s.av w enc) := by
  cases s with
  | nil => exact from_nsl c
  | mk t l =>
    have ht' : ∀ u, u ∈ t :: tags (l.flatMap inn) → c ≤ u := ht
    refine from_slc (ht' t (List.mem_cons_self ..)) fun row hr a ha => ?_
    obtain ⟨x, hxl, rfl⟩ := List.mem_map.1 hr
    refine hx x (fun u hu => ht' u (List.mem_cons_of_mem _ ?_)) a ha
    obtain ⟨o, ho, rfl⟩ := of_mem_tags hu
    exact mem_tags (List.mem_flatMap.2 ⟨x, hxl, ho⟩)
theorem tags_app (X Y : List AObj) : tags (X ++ Y) = tags X ++ tags Y := by simp [tags]
theorem job_from {c : Nat} (x : TJob) (h : ∀ t, t ∈ tags x.inn → c ≤ t) : ∀ a, a ∈ x.enc → From c a := fun a ha => by
  simp only [TJob.inn, tags_app, List.mem_append] at h
  simp only [TJob.enc, List.mem_cons, List.not_mem_nil, or_false] at ha
  rcases ha with rfl | rfl | rfl | rfl | rfl
  · simp
  · simp
  · exact flat_from TPair.flat fun t ht => h t (.inl ht)
  · exact flat_from TPair.flat fun t ht => h t (.inr ht)
  · simp
theorem worker_from {c : Nat} (x : TWorker) (h : ∀ t, t ∈ tags x.inn → c ≤ t) : ∀ a, a ∈ x.enc → From c a := fun a ha => by
  simp only [TWorker.inn, tags_app, List.mem_append] at h
  simp only [TWorker.enc, List.mem_cons, List.not_mem_nil, or_false] at ha
  rcases ha with rfl | rfl | rfl | rfl | rfl | rfl | rfl | rfl | rfl
  · simp
  · simp
  · simp
  · exact flat_from TPair.flat fun t ht => h t (.inl ht)
  · exact flat_from TPair.flat fun t ht => h t (.inr (.inl ht))
  · simp
  · simp
  · exact flat_from TFile.flat fun t ht => h t (.inr (.inr ht))
  · simp
theorem answer_from {c : Nat} (x : TAnswer) (h : ∀ t, t ∈ tags x.inn → c ≤ t) : ∀ a, a ∈ x.enc → From c a := fun a ha => by
  simp only [TAnswer.inn, tags_app, List.mem_append] at h
  simp only [TAnswer.enc, List.mem_cons, List.not_mem_nil, or_false] at ha
  rcases ha with rfl | rfl | rfl | rfl | rfl | rfl | rfl | rfl | rfl | rfl | rfl
  · simp
  · simp
  · exact flat_from TFile.flat fun t ht => h t (.inl ht)
  · simp
  · exact flat_from TPair.flat fun t ht => h t (.inr (.inl ht))
  · exact flat_from TPair.flat fun t ht => h t (.inr (.inr (.inl ht)))
  · simp
  · simp
  · exact flat_from THeader.flat fun t ht => h t (.inr (.inr (.inr ht)))
  · simp
  · simp
theorem server_from {c : Nat} {s : TServer} (h : ∀ t, t ∈ tags s.inn → c ≤ t) : From c (.agg s.enc) := from_agg fun a ha => by
  simp only [TServer.inn, tags_app, List.mem_append] at h
  simp only [TServer.enc, List.mem_cons, List.not_mem_nil, or_false] at ha
  rcases ha with rfl | rfl | rfl | rfl | rfl | rfl | rfl | rfl
  · exact flat_from TFile.flat fun t ht => h t (.inl ht)
  · exact line_from fun t ht => h t (.inr (.inl ht))
  · exact flat_from TSession.flat fun t ht => h t (.inr (.inr (.inl ht)))
  · exact wood_from job_from fun t ht => h t (.inr (.inr (.inr (.inl ht))))
  · exact wood_from worker_from fun t ht => h t (.inr (.inr (.inr (.inr (.inl ht)))))
  · exact wood_from answer_from fun t ht => h t (.inr (.inr (.inr (.inr (.inr ht)))))
  · simp
  · simp
theorem rev_tr {f : Nat} {args : List AV} {s : TServer} {w : Int} (h : ∀ c, Con Tryz.prog f args [] c fun r O _ => RevQ s w r O) : Tr Tryz.prog f args fun _ r => ∃ b : TServer, r = .tup [.agg b.enc, .bool (revOk s w)] ∧ b.con = (revive s w).con :=
  tr_of h fun c r O c' _ ⟨b, h1, h2, h3⟩ ht => ⟨.tup [.agg b.enc, .bool (revOk s w)], by rw [h1]; exact view_tup (.cons (view_AServer (by rw [h2]; exact fun _ h => h)) (.cons (.refl _) .nil)), ⟨b, rfl, h3⟩, from_tup fun a ha => by
    rw [h2] at ht
    simp at ha
    rcases ha with rfl | rfl
    · exact server_from ht
    · exact from_bool _ _⟩

/-! ### the plain function's size and content -/
theorem szL_set {α : Type} (f : α → Nat) : ∀ (l : List α) (i : Nat) (z : α), szL f (l.set i z) ≤ szL f l + f z := by
  intro l
  induction l with
  | nil => intro i z; simp [szL]
  | cons x l ih =>
    intro i z
    cases i with
    | zero => simp [szL]; omega
    | succ i => have := ih i z; simp [szL] at this ⊢; omega
theorem szL_recL (ow : Int) (l : List TLine) : szL TLine.sz (l.map (recL ow)) ≤ szL TLine.sz l := by
  induction l with
  | nil => simp [szL]
  | cons x l ih =>
    have h : (recL ow x).sz ≤ x.sz := by
      unfold recL; split
      · show (0 : Nat) ≤ _; omega
      · exact Nat.le_refl _
    simp only [szL, List.map_cons, List.sum_cons] at ih ⊢; omega
theorem rev_sz {s : TServer} {w : Int} (h : s.sz ≤ 1048576) : (revive s w).sz ≤ 1048576 := by
  unfold revive
  split
  · simp only [TServer.sz, szFileS, szLineS, szSessionS, szJobS, szWorkerS, szAnswerS, SL.list_mk, List.length_set] at h ⊢
    have h1 := szL_set TWorker.sz s.Workers.list w.toNat zeroW
    have h2 : zeroW.sz = 0 := rfl
    have h3 : (recover (w + 1) s.Lines.list).length = s.Lines.list.length ∧ szL TLine.sz (recover (w + 1) s.Lines.list) ≤ szL TLine.sz s.Lines.list := by
      unfold recover
      split
      · exact ⟨by simp, szL_recL _ _⟩
      · exact ⟨rfl, Nat.le_refl _⟩
    omega
  · exact h
theorem rev_con {a b : TServer} (h : a.con = b.con) (w : Int) : revOk a w = revOk b w ∧ (revive a w).con = (revive b w).con := by
  have qL : a.Lines.list.map TLine.con = b.Lines.list.map TLine.con := congrArg (fun t : TServer => t.Lines.list) h
  have qW : a.Workers.list.map TWorker.con = b.Workers.list.map TWorker.con := congrArg (fun t : TServer => t.Workers.list) h
  have qWl : a.Workers.list.length = b.Workers.list.length := by simpa using congrArg List.length qW
  have hok : revOk a w = revOk b w := by
    unfold revOk
    rw [qWl]
    congr 1
    have hg : (a.Workers.list[w.toNat]?).map TWorker.con = (b.Workers.list[w.toNat]?).map TWorker.con := by
      have := congrArg (fun l : List TWorker => l[w.toNat]?) qW
      simpa only [List.getElem?_map] using this
    cases h1 : a.Workers.list[w.toNat]? with
    | none =>
      cases h2 : b.Workers.list[w.toNat]? with
      | none => rfl
      | some y => rw [h1, h2] at hg; cases hg
    | some x =>
      cases h2 : b.Workers.list[w.toNat]? with
      | none => rw [h1, h2] at hg; cases hg
      | some y =>
        rw [h1, h2] at hg
        simp only [Option.map_some, Option.some.injEq] at hg
        have : x.State = y.State := by have := congrArg (fun t : TWorker => t.State) hg; exact this
        simp only [this]
  refine ⟨hok, ?_⟩
  unfold revive
  rw [hok]
  split
  · have cF : a.Files.con TFile.con = b.Files.con TFile.con := congrArg TServer.Files h
    have cS : a.Sessions.con TSession.con = b.Sessions.con TSession.con := congrArg TServer.Sessions h
    have cQ : a.Queue.con TJob.con = b.Queue.con TJob.con := congrArg TServer.Queue h
    have cD : a.Done.con TAnswer.con = b.Done.con TAnswer.con := congrArg TServer.Done h
    have cN : a.Next = b.Next := by have := congrArg (fun t : TServer => t.Next) h; exact this
    have cT : a.Now = b.Now := by have := congrArg (fun t : TServer => t.Now) h; exact this
    have cL : (SL.mk 0 (recover (w + 1) a.Lines.list)).con TLine.con = (SL.mk 0 (recover (w + 1) b.Lines.list)).con TLine.con := by unfold SL.con; rw [SL.list_mk, SL.list_mk, recover_con qL]
    have cW : (SL.mk 0 (a.Workers.list.set w.toNat zeroW)).con TWorker.con = (SL.mk 0 (b.Workers.list.set w.toNat zeroW)).con TWorker.con := by unfold SL.con; rw [SL.list_mk, SL.list_mk, List.map_set, List.map_set, qW]
    simp only [TServer.con, cF, cS, cQ, cD, cN, cT, cL, cW]
  · exact h
def IsSrv (a : TServer) (v : AV) : Prop := ∃ b : TServer, v = .agg b.enc ∧ b.con = a.con
theorem IsSrv_some (a : TServer) (c : Nat) : ∃ r, IsSrv a r ∧ From c r := ⟨_, ⟨a.at c, rfl, a.at_con c⟩, from_agg (TServer.at_from c a)⟩

theorem law_rev {a : TServer} (ha : a.ok) {w : Int} (hw : IOk .i64 w) (c : Nat) : Con Tryz.prog 3 [.agg a.enc, .int .i64 w] [] c fun r H' _ => r = .bool true ∧ H' = [] := by
  have hwb : -9223372036854775808 ≤ w ∧ w ≤ 9223372036854775807 := by
    have e1 : IntKind.i64.min = -9223372036854775808 := by decide
    have e2 : IntKind.i64.max = 9223372036854775807 := by decide
    exact ⟨by have := hw.1; omega, by have := hw.2; omega⟩
  refine con_of c3 (by simp [F3]) ?_
  unfold F3
  simp
  refine call_fn0 (TServer.sz_fn ha ⟨by omega, by omega⟩) .int fun _ _ => ?_
  simp
  refine ⟨fun _ => fin_plain ⟨rfl, rfl⟩, fun h1 => ?_⟩
  obtain ⟨h1', h1''⟩ := szOf_ge h1
  have hz : ∀ x : TServer, x.con = a.con → x.sz ≤ 1048576 := fun x hx => by rw [← x.sz_con, hx, a.sz_con]; omega
  have hzr : ∀ x : TServer, x.con = (revive a w).con → x.sz ≤ 1048576 := fun x hx => by rw [← x.sz_con, hx, TServer.sz_con]; exact rev_sz (hz a rfl)
  have hR := fun (b : TServer) (h : b.con = a.con) => rev_con h w
  refine call_tree0 (TServer.to_fn (hz a rfl)) fun r1 _ _ ⟨a1, e1, q1⟩ _ => ?_
  subst e1
  simp
  refine call_tree0 (rev_tr (spec_revO (smSrv_of (hz _ q1)) hwb)) fun r2 c2 _ ⟨v, e2, q2⟩ _ => ?_
  subst e2
  rw [(hR _ q1).2] at q2
  simp [(hR _ q1).1, putA]
  refine call_new (toServerO (hz a rfl) _) (Views.refl _ _) fun r3 O c3 hc3 ⟨b, e3, hO, q3⟩ _ _ => ?_
  subst e3; subst hO
  refine ⟨_, .refl _, free_agg (TServer.freeO b) _, fun o ho => TServer.freeI b o ho _, ?_⟩
  simp [putA]
  refine call_new (impl_revO (s := b) (smSrv_of (hz _ q3)) hwb _) (.cons (view_AServer (fun o ho => by simp [ho])) (.cons (.refl _) .nil)) fun r4 O c4 hc4 ⟨g, e4, hO, q4⟩ _ _ => ?_
  subst e4; subst hO
  refine ⟨_, .refl _, free_tup (by simp; exact ⟨free_agg (TServer.freeO g), free_bool _⟩) _, fun o ho => TServer.freeI g o ho _, ?_⟩
  rw [(hR _ q3).2] at q4
  simp [(hR _ q3).1, putA]
  have hgz := hzr _ q4
  have qgv : g.con = v.con := q4.trans q2.symm
  refine call_fn (TServer.eq_fn (by omega) qgv) (.cons (view_AServer (fun o ho => by simp [ho])) (.cons (.refl _) .nil)) .bool fun _ _ => ?_
  simp
  refine ⟨fun d v => if d = 47 then IsSrv a v else v = .bool true, ?_⟩
  simp
  refine callD_tree0 (TServer.to_fn (hz a rfl)) (IsSrv_some a _) fun r3 ⟨a3, e3, q3'⟩ _ => ?_
  subst e3
  simp
  refine callD_fnV (TServer.eq_fn (by have := hz _ q3; omega) (q3.trans q3'.symm)) (.cons (view_AServer (fun o ho => by simp [ho])) (.cons (.refl _) .nil)) (fun v => Iff.rfl) (by simp) ?_
  simp
  intro c5 _
  obtain ⟨sb, sw⟩ := server_bounds (hz _ q3)
  obtain ⟨gb, gw⟩ := server_bounds hgz
  have hlb := mkServer_len 1 b
  have hlg := mkServer_len 1 g
  refine markServer_at sb sw (A := [_, _]) (C := _ :: (g.inn ++ [_])) rfl rfl fun c6 _ => ?_
  generalize (mkServer 1 b).inn = B' at hlb ⊢
  have hk1 : ¬ ((1 : Int) + (cServer b : Int) < 0) := by omega
  have hk2 : ¬ ((1 : Int) + (cServer g : Int) < 0) := by omega
  simp [hk1, ← hlb]
  refine call_fn (TServer.eq_fn (by omega) qgv) (.cons (view_AServer (fun o ho => by simp [ho])) (.cons (.refl _) .nil)) .bool fun _ _ => ?_
  simp [hk1, ← hlb]
  refine markServer_at gb gw (A := ⟨false, c, 8, [a.enc]⟩ :: ⟨false, c2, 8, [v.enc]⟩ :: (B' ++ [⟨false, c3, 8, [b.encO]⟩])) (C := [⟨false, c4, 8, [g.encO]⟩]) (by simp) rfl fun c7 _ => ?_
  simp [hk1, hk2, ← hlb, ← hlg]
  refine call_fn (heldServer_fn (s := g) gb gw (k := 1) ⟨by omega, by omega⟩) (.cons (by rw [← mkServer_encO 1 g]; exact view_AServer (fun o ho => by simp [ho])) (.cons (.refl _) .nil)) .int fun _ _ => ?_
  simp [hk1, hk2, ← hlb, ← hlg]
  refine call_tree0 (TServer.to_fn (hz a rfl)) fun r6 _ _ ⟨a6, e6, q6⟩ _ => ?_
  subst e6
  simp
  refine call_tree0 (rev_tr (impl_revO (smSrv_of (hz _ q6)) hwb)) fun r7 c8 _ ⟨y, e7, q7⟩ _ => ?_
  subst e7
  rw [(hR _ q6).2] at q7
  simp [(hR _ q6).1, putA, hk1, hk2, ← hlb, ← hlg]
  have qyv : y.con = v.con := q7.trans q2.symm
  have hyz := hzr _ q7
  refine call_fn0 (TServer.eq_fn (by omega) qyv) .bool fun _ _ => ?_
  simp [hk1, hk2, ← hlb, ← hlg]
  refine call_fn (heldServer_fn (s := g) gb gw (k := 1) ⟨by omega, by omega⟩) (.cons (by rw [← mkServer_encO 1 g]; exact view_AServer (fun o ho => by simp [ho])) (.cons (.refl _) .nil)) .int fun _ _ => ?_
  simp [hk1, hk2]
  exact fin_plain ⟨rfl, rfl⟩
end A
end Go.Proofs.YtfcimcoanlgldaaGreat

/-
  Facts of the whole program that every row of the seat asks, each worked out once. No condition.
-/


namespace Go.Proofs.YtfcimcoanlgldaaGreat.Closed
open Go.ChangeShapes Go.WideShapes Go.RowKit
theorem heard : Tryz.pinned.checked.prog.stopsHeard = true := by kernel_rfl
theorem enter : Tryz.pinned.checked.prog.mayEnter = true := by kernel_rfl
theorem make : Tryz.pinned.checked.prog.make = some Rows.fnExactReviveWorkRow.make := by kernel_rfl
theorem lifts : Tryz.pinned.checked.prog.liftsFinal = Rows.fnExactReviveWorkRow.lifted := by kernel_rfl
end Go.Proofs.YtfcimcoanlgldaaGreat.Closed

/-
  FnExactReviveWork: FnExactReviveWork: the program's ReviveWork and the reference's give the same No condition.
-/



namespace Go.Proofs.YtfcimcoanlgldaaGreat.fnExactReviveWork
open Go.ChangeShapes Go.WideShapes Go.ChangeAt Go.RowKit
open Go.Proofs.YtfcimcoanlgldaaGreat.A
set_option linter.unusedVariables false

theorem own : ownKnob Tryz.prog.godebug = none := by kernel_rfl

def types : List TypeId := [29, 22, 86, 9, 3, 23, 90, 88, 24, 93, 25, 99, 97, 95, 170, 26, 102, 27, 108, 106, 104, 172, 4]

set_option maxRecDepth 100000 in
theorem lifted (os : Os) (started : os.Started) (H : Type) (enc : TypeId × Value → H) :
    ReturnsInHanded {} Tryz.checked os 3 .any (Rows.fnExactReviveWorkSpec.pre6 enc Tryz.prog Tryz.f3 Rows.fnExactReviveWorkRow.domain false) (Rows.fnExactReviveWorkSpec.post enc Tryz.prog Tryz.f3 false true false false) := by
  refine returnsInHanded_of_change (C := Tryz.checked) own started (by kernel_rfl) Tryz.func3
    (ChangeSpec.witness6 (enc := enc) (C := Tryz.checked) false ⟨#[], #[.agg #[.slice none 0 0, .slice none 0 0, .slice none 0 0, .slice none 0 0, .slice none 0 0, .slice none 0 0, .int .i64 0, .int .i64 0], .int .i64 0], []⟩ 8 (by kernel_rfl) (by kernel_rfl) (by kernel_rfl) (by kernel_rfl)) ?_
  intro W base args ds gs before hval0 hW hcnd _
  have hval : ∀ (j : Nat) t v, Tryz.f3.params[j]? = some t → args[j]? = some v → Value.okWide Tryz.prog W .any base t v := hval0
  refine law_post (rs := types) (bt := 4) (by kernel_rfl) (by kernel_rfl) (fun t ht => ?_) Tryz.underlying4 (by kernel_rfl) rfl (fun ds hds => ?_) hW hval fun l has => ?_
  · rw [Tryz.params3] at ht
    simp at ht
    first
      | (subst ht; exact ⟨by simp [types], by kernel_rfl, of_decide_eq_true (by kernel_rfl)⟩)
      | (rcases ht with rfl | rfl <;> exact ⟨by simp [types], by kernel_rfl, of_decide_eq_true (by kernel_rfl)⟩)
      | (rcases ht with rfl | rfl | rfl <;> exact ⟨by simp [types], by kernel_rfl, of_decide_eq_true (by kernel_rfl)⟩)
      | (rcases ht with rfl | rfl | rfl | rfl <;> exact ⟨by simp [types], by kernel_rfl, of_decide_eq_true (by kernel_rfl)⟩)
      | (rcases ht with rfl | rfl | rfl | rfl | rfl <;> exact ⟨by simp [types], by kernel_rfl, of_decide_eq_true (by kernel_rfl)⟩)
      | (rcases ht with rfl | rfl | rfl | rfl | rfl | rfl <;> exact ⟨by simp [types], by kernel_rfl, of_decide_eq_true (by kernel_rfl)⟩)
  · rw [← Array.length_toList, Tryz.params3] at hds
    match ds, hds with
    | [d0, d1], _ => exact ⟨rfl, rfl, rfl⟩
  · rw [Tryz.params3] at has
    cases has with
    | cons h0 has =>
      cases has with
      | cons h1 has =>
        cases has
        obtain ⟨n0, h0⟩ := h0
        rw [if_pos (by decide)] at h0
        obtain ⟨as0, rfl, h0⟩ := h0
        obtain ⟨s0, rfl, k0⟩ := TServer.sh _ _ h0
        obtain ⟨n1, h1⟩ := h1
        rw [if_neg (by decide)] at h1
        obtain ⟨s1, rfl, k1⟩ := sh_int (k := .i64) (t := 3) (by kernel_rfl) h1
        exact A.law_rev k0 k1 _

set_option maxHeartbeats 4000000 in
theorem facts : joinedFacts Tryz.pinned.checked.prog 3 Tryz.f3 Rows.fnExactReviveWorkSpec Rows.fnExactReviveWorkRow = true := by
  unfold joinedFacts
  rw [Closed.heard, Closed.enter, Closed.lifts, Closed.make]
  simp only [Bool.and_eq_true]
  iterate 6 (refine ⟨?_, by as_aux_lemma => kernel_rfl⟩)
  refine ⟨⟨?_, trivial⟩, trivial⟩
  iterate 23 (refine ⟨?_, by as_aux_lemma => kernel_rfl⟩)
  kernel_rfl
theorem named : Tryz.pinned.checked.prog.funcNamed Rows.fnExactReviveWorkRow.func = some 3 := by kernel_rfl
theorem inst : Tryz.f3.isInstance Tryz.pinned.checked.prog Rows.fnExactReviveWorkRow.origin Rows.fnExactReviveWorkRow.targs := of_decide_eq_true (by kernel_rfl)
theorem wrap : Tryz.f3.isWrapper Tryz.pinned.checked.prog Rows.fnExactReviveWorkRow.wrapper Rows.fnExactReviveWorkRow.mainSum := by
  unfold Func.isWrapper
  first
    | (rw [if_pos (by decide +kernel)]; kernel_rfl)
    | (rw [if_neg (by decide +kernel)]; exact ⟨rfl, rfl⟩)

theorem over : Rows.fnExactReviveWorkRow.holds Tryz.pinned (OpenSpec.ofChange Rows.fnExactReviveWorkSpec) :=
  OpenClaim.holds_of_wide 3 Tryz.f3 rfl rfl rfl rfl rfl rfl rfl ⟨rfl, rfl, rfl, rfl, rfl⟩ rfl rfl rfl rfl rfl named Tryz.func3 facts inst wrap
    (fun os started H enc _ => lifted os started H enc)

/-- THE STATEMENT -/
theorem proved : Rows.FnExactReviveWorkSaid :=
  over
#print axioms proved
end Go.Proofs.YtfcimcoanlgldaaGreat.fnExactReviveWork
