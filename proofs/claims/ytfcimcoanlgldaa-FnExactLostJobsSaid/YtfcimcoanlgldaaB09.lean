import Derived.Test.YtfcimcoanlgldaaRows
import Derived.OpenShut
import Derived.Test.YtfcimcoanlgldaaB08

/-
  Servers kept as0 objects: printed by a program (wip/tools/genobj.py). No condition.
-/

namespace Go.Proofs.Ytfcimcoanlgldaa
namespace A
set_option linter.unusedVariables false
set_option linter.unusedSimpArgs false
set_option maxRecDepth 100000

theorem call_mid2 {P : Program} {K : AV → List AObj → Nat → Prop} {f : Nat} {l l' : List AV} {a : AObj} {A A2 B C : List AObj} {c : Nat} {Q : AV → List AObj → Nat → Prop} (hf : Con P f l' B c Q) (hv : Views [] l l')
    (k : ∀ r B' c', c ≤ c' → Q r B' c' → tags B' = tags B ∧ Av [] r ∧ (∀ o, o ∈ B' → AvRows [] o) ∧ K r (a :: (A ++ (A2 ++ (B' ++ C)))) c') : CallW P f l (a :: (A ++ (A2 ++ (B ++ C)))) c K := by
  have e : ∀ X : List AObj, a :: (A ++ (A2 ++ (X ++ C))) = a :: ((A ++ A2) ++ (X ++ C)) := fun X => by simp
  rw [e]
  exact call_midr hf hv fun r B' c' hc hq => by rw [← e]; exact k r B' c' hc hq
theorem call_mid3 {P : Program} {K : AV → List AObj → Nat → Prop} {f : Nat} {l l' : List AV} {a : AObj} {A A2 A3 B C : List AObj} {c : Nat} {Q : AV → List AObj → Nat → Prop} (hf : Con P f l' B c Q) (hv : Views [] l l')
    (k : ∀ r B' c', c ≤ c' → Q r B' c' → tags B' = tags B ∧ Av [] r ∧ (∀ o, o ∈ B' → AvRows [] o) ∧ K r (a :: (A ++ (A2 ++ (A3 ++ (B' ++ C))))) c') : CallW P f l (a :: (A ++ (A2 ++ (A3 ++ (B ++ C))))) c K := by
  have e : ∀ X : List AObj, a :: (A ++ (A2 ++ (A3 ++ (X ++ C)))) = a :: ((A ++ (A2 ++ A3)) ++ (X ++ C)) := fun X => by simp
  rw [e]
  exact call_midr hf hv fun r B' c' hc hq => by rw [← e]; exact k r B' c' hc hq
theorem call_mid4 {P : Program} {K : AV → List AObj → Nat → Prop} {f : Nat} {l l' : List AV} {a : AObj} {A A2 A3 A4 B C : List AObj} {c : Nat} {Q : AV → List AObj → Nat → Prop} (hf : Con P f l' B c Q) (hv : Views [] l l')
    (k : ∀ r B' c', c ≤ c' → Q r B' c' → tags B' = tags B ∧ Av [] r ∧ (∀ o, o ∈ B' → AvRows [] o) ∧ K r (a :: (A ++ (A2 ++ (A3 ++ (A4 ++ (B' ++ C)))))) c') : CallW P f l (a :: (A ++ (A2 ++ (A3 ++ (A4 ++ (B ++ C)))))) c K := by
  have e : ∀ X : List AObj, a :: (A ++ (A2 ++ (A3 ++ (A4 ++ (X ++ C))))) = a :: ((A ++ (A2 ++ (A3 ++ A4))) ++ (X ++ C)) := fun X => by simp
  rw [e]
  exact call_midr hf hv fun r B' c' hc hq => by rw [← e]; exact k r B' c' hc hq
theorem TFile.flat : Flat TFile.enc := fun x a ha => by
  simp [TFile.enc] at ha
  rcases ha with rfl | rfl | rfl <;> exact ⟨rfl, fun T => by constructor⟩
theorem toFileSO {s : SL TFile} (h : szFileS s ≤ 1048576) (c : Nat) : Con Try.prog 54 [s.av 3 TFile.enc] [] c fun r H' _ => ∃ b : SL TFile, r = b.ref 3 ∧ H' = b.wood 3 TFile.enc noInn ∧ b.list.map TFile.con = s.list.map TFile.con := by
  unfold szFileS at h
  exact toSO_fn (g := 85) (z := [.str [], .str [], .int .i64 0]) (bytes := 40) c54 rfl (fun _ => rfl) (fun _ => rfl) (fun x a ha => (TFile.flat x a ha).2) (fun x o ho => by cases ho) (by omega) (by omega)
    (fun x hx c => (TFile.to_fn (by have := szL_mem (sz := TFile.sz) hx; omega) c).mono fun r H' c' _ ⟨hH, ⟨b, hr, hb⟩, _⟩ => ⟨b, hr, hH, hb⟩) c
def mkFile (k : Int) (x : TFile) : TFile := ⟨mtext k, mtext (k + 1), k + 1 + 1⟩
def cFile (x : TFile) : Nat := 3
theorem markFile_nil (k : Int) : Fnc Try.prog 67 [.nsl, .int .i64 k] (.int .i64 k) := by
  refine fn_of c67 (by simp [F67]) fun c => ?_
  unfold F67
  simp
  refine loop_drop 0 (fun i e H c' => e 0 = .nsl ∧ e 1 = .int .i64 k ∧ e 5 = .int .i64 0 ∧ H = []) ⟨rfl, rfl, rfl, rfl⟩ ?_
  intro i e H c hi ⟨e0, e1, e5, hH⟩ N hN
  subst hH
  simp [e0, e1, e5]
  exact fin_plain ⟨rfl, rfl⟩
theorem szL_cFile (l : List TFile) : l.length ≤ szL cFile l := by
  induction l with
  | nil => simp
  | cons x l ih => simp [szL, cFile] at ih ⊢; omega
theorem szL_eFile (l : List TFile) : szL cFile l = 3 * l.length := by
  show szL (fun _ => 3) l = _
  rw [szL_const]
theorem markFile_con1 {l : List TFile} (hz : szL cFile l ≤ 16777216) {k : Int} (hk : 0 ≤ k ∧ k ≤ 1099511627776) (t c : Nat) :
    Con Try.prog 67 [.ref 0 t 3 l.length, .int .i64 k] ([⟨false, t, 3, l.map TFile.enc⟩]) c fun r H' _ => r = .int .i64 (k + szL cFile l) ∧ H' = [⟨false, t, 3, (mks mkFile cFile k l).map TFile.enc⟩] := by
  have hln := szL_cFile l
  refine con_of c67 (by simp [F67]) ?_
  unfold F67
  simp
  refine loop_drop l.length (fun i e H c' => e 0 = .ref 0 t 3 l.length ∧ e 1 = .int .i64 (k + szL cFile (l.take i)) ∧ e 5 = .int .i64 i ∧ H = [⟨false, t, 3, (mixed mkFile cFile k l i).map TFile.enc⟩]) ⟨rfl, by simp [szL], rfl, by rw [mixed_zero]⟩ ?_
  intro i e H c hi ⟨e0, e1, e5, hH⟩ N hN
  subst hH
  have hs := mixed_set mkFile cFile k l (i := i)
  have hst := fun h : i < l.length => szL_step cFile l h
  have hle := szL_le cFile l i
  have hle1 := szL_le cFile l (i + 1)
  generalize hjj : k + (szL cFile (l.take i) : Int) = j at e1 hs
  simp [e0, e1, e5]
  refine ⟨fun h => ?_, fun h => ?_⟩
  · have hs := hs h
    have hst := hst h
    have hg := mixed_get mkFile cFile k l h
    have hx := szL_mem (sz := cFile) (List.getElem_mem h)
    generalize l[i] = x at hs hst hg hx
    simp only [cFile] at hx hst
    have w0 : IntKind.i64.wrap (j + 1) = j + 1 := wrap64 (by omega) (by omega)
    have w1 : IntKind.i64.wrap (j + 1 + 1) = j + 1 + 1 := wrap64 (by omega) (by omega)
    have w2 : IntKind.i64.wrap (j + 1 + 1 + 1) = j + 1 + 1 + 1 := wrap64 (by omega) (by omega)
    refine call_fn0 (mtext_fn (by omega)) .str fun _ _ => ?_
    simp [e0, e1, e5, h]
    refine ⟨_, hg, ?_⟩
    simp [e0, e1, e5, h, mixed_len, w0, w1, w2, putA, TFile.enc]
    refine call_fn0 (mtext_fn (by omega)) .str fun _ _ => ?_
    simp [e0, e1, e5, h, mixed_len, w0, w1, w2, putA, TFile.enc]
    refine hN _ _ _ _ h (List.Sublist.refl _) ⟨by simp [upd, e0], ?_, by simp [upd]; exact step64 (by unfold mx; omega) h, ?_⟩
    · simp [upd, w0, w1, w2, hst]; omega
    · rw [← hs, List.map_set]
      simp [mkFile, TFile.enc, w0, w1, w2]
  · have h1 : i = l.length := by omega
    subst h1
    refine fin_all ⟨?_, ?_⟩
    · rw [← hjj]; simp
    · rw [mixed_all]
theorem markFile_con {s : SL TFile} (hz : szL cFile s.list ≤ 16777216) {k : Int} (hk : 0 ≤ k ∧ k ≤ 1099511627776) (c : Nat) :
    Con Try.prog 67 [s.ref 3, .int .i64 k] (s.wood 3 TFile.enc noInn) c fun r H' _ => r = .int .i64 (k + szL cFile s.list) ∧ H' = (s.marks mkFile cFile k).wood 3 TFile.enc noInn := by
  cases s with
  | nil =>
    have := markFile_nil k c
    simpa [SL.ref, SL.wood, SL.marks, szL] using this
  | mk t l =>
    have := markFile_con1 (l := l) hz hk t c
    simpa [SL.ref, SL.wood, SL.marks, wood_flat] using this
theorem TSession.flat : Flat TSession.enc := fun x a ha => by
  simp [TSession.enc] at ha
  rcases ha with rfl | rfl | rfl | rfl <;> exact ⟨rfl, fun T => by constructor⟩
theorem toSessionSO {s : SL TSession} (h : szSessionS s ≤ 1048576) (c : Nat) : Con Try.prog 55 [s.av 4 TSession.enc] [] c fun r H' _ => ∃ b : SL TSession, r = b.ref 4 ∧ H' = b.wood 4 TSession.enc noInn ∧ b.list.map TSession.con = s.list.map TSession.con := by
  unfold szSessionS at h
  exact toSO_fn (g := 86) (z := [.str [], .str [], .int .i64 0, .int .i64 0]) (bytes := 48) c55 rfl (fun _ => rfl) (fun _ => rfl) (fun x a ha => (TSession.flat x a ha).2) (fun x o ho => by cases ho) (by omega) (by omega)
    (fun x hx c => (TSession.to_fn (by have := szL_mem (sz := TSession.sz) hx; omega) c).mono fun r H' c' _ ⟨hH, ⟨b, hr, hb⟩, _⟩ => ⟨b, hr, hH, hb⟩) c
def mkSession (k : Int) (x : TSession) : TSession := ⟨mtext k, mtext (k + 1), k + 1 + 1, k + 1 + 1 + 1⟩
def cSession (x : TSession) : Nat := 4
theorem markSession_nil (k : Int) : Fnc Try.prog 68 [.nsl, .int .i64 k] (.int .i64 k) := by
  refine fn_of c68 (by simp [F68]) fun c => ?_
  unfold F68
  simp
  refine loop_drop 0 (fun i e H c' => e 0 = .nsl ∧ e 1 = .int .i64 k ∧ e 5 = .int .i64 0 ∧ H = []) ⟨rfl, rfl, rfl, rfl⟩ ?_
  intro i e H c hi ⟨e0, e1, e5, hH⟩ N hN
  subst hH
  simp [e0, e1, e5]
  exact fin_plain ⟨rfl, rfl⟩
theorem szL_cSession (l : List TSession) : l.length ≤ szL cSession l := by
  induction l with
  | nil => simp
  | cons x l ih => simp [szL, cSession] at ih ⊢; omega
theorem szL_eSession (l : List TSession) : szL cSession l = 4 * l.length := by
  show szL (fun _ => 4) l = _
  rw [szL_const]
theorem markSession_con1 {l : List TSession} (hz : szL cSession l ≤ 16777216) {k : Int} (hk : 0 ≤ k ∧ k ≤ 1099511627776) (t c : Nat) :
    Con Try.prog 68 [.ref 0 t 4 l.length, .int .i64 k] ([⟨false, t, 4, l.map TSession.enc⟩]) c fun r H' _ => r = .int .i64 (k + szL cSession l) ∧ H' = [⟨false, t, 4, (mks mkSession cSession k l).map TSession.enc⟩] := by
  have hln := szL_cSession l
  refine con_of c68 (by simp [F68]) ?_
  unfold F68
  simp
  refine loop_drop l.length (fun i e H c' => e 0 = .ref 0 t 4 l.length ∧ e 1 = .int .i64 (k + szL cSession (l.take i)) ∧ e 5 = .int .i64 i ∧ H = [⟨false, t, 4, (mixed mkSession cSession k l i).map TSession.enc⟩]) ⟨rfl, by simp [szL], rfl, by rw [mixed_zero]⟩ ?_
  intro i e H c hi ⟨e0, e1, e5, hH⟩ N hN
  subst hH
  have hs := mixed_set mkSession cSession k l (i := i)
  have hst := fun h : i < l.length => szL_step cSession l h
  have hle := szL_le cSession l i
  have hle1 := szL_le cSession l (i + 1)
  generalize hjj : k + (szL cSession (l.take i) : Int) = j at e1 hs
  simp [e0, e1, e5]
  refine ⟨fun h => ?_, fun h => ?_⟩
  · have hs := hs h
    have hst := hst h
    have hg := mixed_get mkSession cSession k l h
    have hx := szL_mem (sz := cSession) (List.getElem_mem h)
    generalize l[i] = x at hs hst hg hx
    simp only [cSession] at hx hst
    have w0 : IntKind.i64.wrap (j + 1) = j + 1 := wrap64 (by omega) (by omega)
    have w1 : IntKind.i64.wrap (j + 1 + 1) = j + 1 + 1 := wrap64 (by omega) (by omega)
    have w2 : IntKind.i64.wrap (j + 1 + 1 + 1) = j + 1 + 1 + 1 := wrap64 (by omega) (by omega)
    have w3 : IntKind.i64.wrap (j + 1 + 1 + 1 + 1) = j + 1 + 1 + 1 + 1 := wrap64 (by omega) (by omega)
    refine call_fn0 (mtext_fn (by omega)) .str fun _ _ => ?_
    simp [e0, e1, e5, h]
    refine ⟨_, hg, ?_⟩
    simp [e0, e1, e5, h, mixed_len, w0, w1, w2, w3, putA, TSession.enc]
    refine call_fn0 (mtext_fn (by omega)) .str fun _ _ => ?_
    simp [e0, e1, e5, h, mixed_len, w0, w1, w2, w3, putA, TSession.enc]
    refine hN _ _ _ _ h (List.Sublist.refl _) ⟨by simp [upd, e0], ?_, by simp [upd]; exact step64 (by unfold mx; omega) h, ?_⟩
    · simp [upd, w0, w1, w2, w3, hst]; omega
    · rw [← hs, List.map_set]
      simp [mkSession, TSession.enc, w0, w1, w2, w3]
  · have h1 : i = l.length := by omega
    subst h1
    refine fin_all ⟨?_, ?_⟩
    · rw [← hjj]; simp
    · rw [mixed_all]
theorem markSession_con {s : SL TSession} (hz : szL cSession s.list ≤ 16777216) {k : Int} (hk : 0 ≤ k ∧ k ≤ 1099511627776) (c : Nat) :
    Con Try.prog 68 [s.ref 4, .int .i64 k] (s.wood 4 TSession.enc noInn) c fun r H' _ => r = .int .i64 (k + szL cSession s.list) ∧ H' = (s.marks mkSession cSession k).wood 4 TSession.enc noInn := by
  cases s with
  | nil =>
    have := markSession_nil k c
    simpa [SL.ref, SL.wood, SL.marks, szL] using this
  | mk t l =>
    have := markSession_con1 (l := l) hz hk t c
    simpa [SL.ref, SL.wood, SL.marks, wood_flat] using this
theorem TPair.flat : Flat TPair.enc := fun x a ha => by
  simp [TPair.enc] at ha
  rcases ha with rfl | rfl <;> exact ⟨rfl, fun T => by constructor⟩
theorem toPairSO {s : SL TPair} (h : szPairS s ≤ 1048576) (c : Nat) : Con Try.prog 106 [s.av 2 TPair.enc] [] c fun r H' _ => ∃ b : SL TPair, r = b.ref 2 ∧ H' = b.wood 2 TPair.enc noInn ∧ b.list.map TPair.con = s.list.map TPair.con := by
  unfold szPairS at h
  exact toSO_fn (g := 112) (z := [.str [], .str []]) (bytes := 32) c106 rfl (fun _ => rfl) (fun _ => rfl) (fun x a ha => (TPair.flat x a ha).2) (fun x o ho => by cases ho) (by omega) (by omega)
    (fun x hx c => (TPair.to_fn (by have := szL_mem (sz := TPair.sz) hx; omega) c).mono fun r H' c' _ ⟨hH, ⟨b, hr, hb⟩, _⟩ => ⟨b, hr, hH, hb⟩) c
def mkPair (k : Int) (x : TPair) : TPair := ⟨mtext k, mtext (k + 1)⟩
def cPair (x : TPair) : Nat := 2
theorem markPair_nil (k : Int) : Fnc Try.prog 96 [.nsl, .int .i64 k] (.int .i64 k) := by
  refine fn_of c96 (by simp [F96]) fun c => ?_
  unfold F96
  simp
  refine loop_drop 0 (fun i e H c' => e 0 = .nsl ∧ e 1 = .int .i64 k ∧ e 5 = .int .i64 0 ∧ H = []) ⟨rfl, rfl, rfl, rfl⟩ ?_
  intro i e H c hi ⟨e0, e1, e5, hH⟩ N hN
  subst hH
  simp [e0, e1, e5]
  exact fin_plain ⟨rfl, rfl⟩
theorem szL_cPair (l : List TPair) : l.length ≤ szL cPair l := by
  induction l with
  | nil => simp
  | cons x l ih => simp [szL, cPair] at ih ⊢; omega
theorem szL_ePair (l : List TPair) : szL cPair l = 2 * l.length := by
  show szL (fun _ => 2) l = _
  rw [szL_const]
theorem markPair_con1 {l : List TPair} (hz : szL cPair l ≤ 16777216) {k : Int} (hk : 0 ≤ k ∧ k ≤ 1099511627776) (t c : Nat) :
    Con Try.prog 96 [.ref 0 t 2 l.length, .int .i64 k] ([⟨false, t, 2, l.map TPair.enc⟩]) c fun r H' _ => r = .int .i64 (k + szL cPair l) ∧ H' = [⟨false, t, 2, (mks mkPair cPair k l).map TPair.enc⟩] := by
  have hln := szL_cPair l
  refine con_of c96 (by simp [F96]) ?_
  unfold F96
  simp
  refine loop_drop l.length (fun i e H c' => e 0 = .ref 0 t 2 l.length ∧ e 1 = .int .i64 (k + szL cPair (l.take i)) ∧ e 5 = .int .i64 i ∧ H = [⟨false, t, 2, (mixed mkPair cPair k l i).map TPair.enc⟩]) ⟨rfl, by simp [szL], rfl, by rw [mixed_zero]⟩ ?_
  intro i e H c hi ⟨e0, e1, e5, hH⟩ N hN
  subst hH
  have hs := mixed_set mkPair cPair k l (i := i)
  have hst := fun h : i < l.length => szL_step cPair l h
  have hle := szL_le cPair l i
  have hle1 := szL_le cPair l (i + 1)
  generalize hjj : k + (szL cPair (l.take i) : Int) = j at e1 hs
  simp [e0, e1, e5]
  refine ⟨fun h => ?_, fun h => ?_⟩
  · have hs := hs h
    have hst := hst h
    have hg := mixed_get mkPair cPair k l h
    have hx := szL_mem (sz := cPair) (List.getElem_mem h)
    generalize l[i] = x at hs hst hg hx
    simp only [cPair] at hx hst
    have w0 : IntKind.i64.wrap (j + 1) = j + 1 := wrap64 (by omega) (by omega)
    have w1 : IntKind.i64.wrap (j + 1 + 1) = j + 1 + 1 := wrap64 (by omega) (by omega)
    refine call_fn0 (mtext_fn (by omega)) .str fun _ _ => ?_
    simp [e0, e1, e5, h]
    refine ⟨_, hg, ?_⟩
    simp [e0, e1, e5, h, mixed_len, w0, w1, putA, TPair.enc]
    refine call_fn0 (mtext_fn (by omega)) .str fun _ _ => ?_
    simp [e0, e1, e5, h, mixed_len, w0, w1, putA, TPair.enc]
    refine hN _ _ _ _ h (List.Sublist.refl _) ⟨by simp [upd, e0], ?_, by simp [upd]; exact step64 (by unfold mx; omega) h, ?_⟩
    · simp [upd, w0, w1, hst]; omega
    · rw [← hs, List.map_set]
      simp [mkPair, TPair.enc, w0, w1]
  · have h1 : i = l.length := by omega
    subst h1
    refine fin_all ⟨?_, ?_⟩
    · rw [← hjj]; simp
    · rw [mixed_all]
theorem markPair_con {s : SL TPair} (hz : szL cPair s.list ≤ 16777216) {k : Int} (hk : 0 ≤ k ∧ k ≤ 1099511627776) (c : Nat) :
    Con Try.prog 96 [s.ref 2, .int .i64 k] (s.wood 2 TPair.enc noInn) c fun r H' _ => r = .int .i64 (k + szL cPair s.list) ∧ H' = (s.marks mkPair cPair k).wood 2 TPair.enc noInn := by
  cases s with
  | nil =>
    have := markPair_nil k c
    simpa [SL.ref, SL.wood, SL.marks, szL] using this
  | mk t l =>
    have := markPair_con1 (l := l) hz hk t c
    simpa [SL.ref, SL.wood, SL.marks, wood_flat] using this
theorem THeader.flat : Flat THeader.enc := fun x a ha => by
  simp [THeader.enc] at ha
  rcases ha with rfl | rfl <;> exact ⟨rfl, fun T => by constructor⟩
theorem toHeaderSO {s : SL THeader} (h : szHeaderS s ≤ 1048576) (c : Nat) : Con Try.prog 107 [s.av 2 THeader.enc] [] c fun r H' _ => ∃ b : SL THeader, r = b.ref 2 ∧ H' = b.wood 2 THeader.enc noInn ∧ b.list.map THeader.con = s.list.map THeader.con := by
  unfold szHeaderS at h
  exact toSO_fn (g := 113) (z := [.str [], .str []]) (bytes := 32) c107 rfl (fun _ => rfl) (fun _ => rfl) (fun x a ha => (THeader.flat x a ha).2) (fun x o ho => by cases ho) (by omega) (by omega)
    (fun x hx c => (THeader.to_fn (by have := szL_mem (sz := THeader.sz) hx; omega) c).mono fun r H' c' _ ⟨hH, ⟨b, hr, hb⟩, _⟩ => ⟨b, hr, hH, hb⟩) c
def mkHeader (k : Int) (x : THeader) : THeader := ⟨mtext k, mtext (k + 1)⟩
def cHeader (x : THeader) : Nat := 2
theorem markHeader_nil (k : Int) : Fnc Try.prog 97 [.nsl, .int .i64 k] (.int .i64 k) := by
  refine fn_of c97 (by simp [F97]) fun c => ?_
  unfold F97
  simp
  refine loop_drop 0 (fun i e H c' => e 0 = .nsl ∧ e 1 = .int .i64 k ∧ e 5 = .int .i64 0 ∧ H = []) ⟨rfl, rfl, rfl, rfl⟩ ?_
  intro i e H c hi ⟨e0, e1, e5, hH⟩ N hN
  subst hH
  simp [e0, e1, e5]
  exact fin_plain ⟨rfl, rfl⟩
theorem szL_cHeader (l : List THeader) : l.length ≤ szL cHeader l := by
  induction l with
  | nil => simp
  | cons x l ih => simp [szL, cHeader] at ih ⊢; omega
theorem szL_eHeader (l : List THeader) : szL cHeader l = 2 * l.length := by
  show szL (fun _ => 2) l = _
  rw [szL_const]
theorem markHeader_con1 {l : List THeader} (hz : szL cHeader l ≤ 16777216) {k : Int} (hk : 0 ≤ k ∧ k ≤ 1099511627776) (t c : Nat) :
    Con Try.prog 97 [.ref 0 t 2 l.length, .int .i64 k] ([⟨false, t, 2, l.map THeader.enc⟩]) c fun r H' _ => r = .int .i64 (k + szL cHeader l) ∧ H' = [⟨false, t, 2, (mks mkHeader cHeader k l).map THeader.enc⟩] := by
  have hln := szL_cHeader l
  refine con_of c97 (by simp [F97]) ?_
  unfold F97
  simp
  refine loop_drop l.length (fun i e H c' => e 0 = .ref 0 t 2 l.length ∧ e 1 = .int .i64 (k + szL cHeader (l.take i)) ∧ e 5 = .int .i64 i ∧ H = [⟨false, t, 2, (mixed mkHeader cHeader k l i).map THeader.enc⟩]) ⟨rfl, by simp [szL], rfl, by rw [mixed_zero]⟩ ?_
  intro i e H c hi ⟨e0, e1, e5, hH⟩ N hN
  subst hH
  have hs := mixed_set mkHeader cHeader k l (i := i)
  have hst := fun h : i < l.length => szL_step cHeader l h
  have hle := szL_le cHeader l i
  have hle1 := szL_le cHeader l (i + 1)
  generalize hjj : k + (szL cHeader (l.take i) : Int) = j at e1 hs
  simp [e0, e1, e5]
  refine ⟨fun h => ?_, fun h => ?_⟩
  · have hs := hs h
    have hst := hst h
    have hg := mixed_get mkHeader cHeader k l h
    have hx := szL_mem (sz := cHeader) (List.getElem_mem h)
    generalize l[i] = x at hs hst hg hx
    simp only [cHeader] at hx hst
    have w0 : IntKind.i64.wrap (j + 1) = j + 1 := wrap64 (by omega) (by omega)
    have w1 : IntKind.i64.wrap (j + 1 + 1) = j + 1 + 1 := wrap64 (by omega) (by omega)
    refine call_fn0 (mtext_fn (by omega)) .str fun _ _ => ?_
    simp [e0, e1, e5, h]
    refine ⟨_, hg, ?_⟩
    simp [e0, e1, e5, h, mixed_len, w0, w1, putA, THeader.enc]
    refine call_fn0 (mtext_fn (by omega)) .str fun _ _ => ?_
    simp [e0, e1, e5, h, mixed_len, w0, w1, putA, THeader.enc]
    refine hN _ _ _ _ h (List.Sublist.refl _) ⟨by simp [upd, e0], ?_, by simp [upd]; exact step64 (by unfold mx; omega) h, ?_⟩
    · simp [upd, w0, w1, hst]; omega
    · rw [← hs, List.map_set]
      simp [mkHeader, THeader.enc, w0, w1]
  · have h1 : i = l.length := by omega
    subst h1
    refine fin_all ⟨?_, ?_⟩
    · rw [← hjj]; simp
    · rw [mixed_all]
theorem markHeader_con {s : SL THeader} (hz : szL cHeader s.list ≤ 16777216) {k : Int} (hk : 0 ≤ k ∧ k ≤ 1099511627776) (c : Nat) :
    Con Try.prog 97 [s.ref 2, .int .i64 k] (s.wood 2 THeader.enc noInn) c fun r H' _ => r = .int .i64 (k + szL cHeader s.list) ∧ H' = (s.marks mkHeader cHeader k).wood 2 THeader.enc noInn := by
  cases s with
  | nil =>
    have := markHeader_nil k c
    simpa [SL.ref, SL.wood, SL.marks, szL] using this
  | mk t l =>
    have := markHeader_con1 (l := l) hz hk t c
    simpa [SL.ref, SL.wood, SL.marks, wood_flat] using this
def TRequest.encO (s : TRequest) : List AV := [.str s.Path, s.Query.ref 2, s.Cookies.ref 2]
def TRequest.inn (s : TRequest) : List AObj := s.Query.wood 2 TPair.enc noInn ++ (s.Cookies.wood 2 TPair.enc noInn)
@[simp] theorem TRequest.lenO (s : TRequest) : s.encO.length = 3 := (rfl)
@[simp] theorem TRequest.allO (s : TRequest) : s.encO.take 3 = s.encO := (rfl)
@[simp] theorem TRequest.o0 (s : TRequest) (K : AV → Prop) : getW s.encO 0 K = K (.str s.Path) := by simp [TRequest.encO]
@[simp] theorem TRequest.o1 (s : TRequest) (K : AV → Prop) : getW s.encO 1 K = K (s.Query.ref 2) := by simp [TRequest.encO]
@[simp] theorem TRequest.o2 (s : TRequest) (K : AV → Prop) : getW s.encO 2 K = K (s.Cookies.ref 2) := by simp [TRequest.encO]
theorem TRequest.freeO : ∀ (x : TRequest) a, a ∈ x.encO → Free a := fun x a ha => by
  simp [TRequest.encO] at ha
  rcases ha with rfl | rfl | rfl
  · exact free_str _
  · exact free_ref _ _
  · exact free_ref _ _
theorem TRequest.freeI : ∀ (x : TRequest) o, o ∈ x.inn → ∀ T, AvRows T o := fun x o ho => by
  simp only [TRequest.inn, List.mem_append] at ho
  rcases ho with ho | ho
  · exact flat_free TPair.flat _ _ o ho
  · exact flat_free TPair.flat _ _ o ho
theorem TRequest.viewO {S : List AObj} (x : TRequest) (h : ∀ o, o ∈ x.inn → o ∈ S) : ∀ (j : Nat) (a a' : AV), x.encO[j]? = some a → x.enc[j]? = some a' → View S a a' := fun j a a' h1 h2 => by
  match j, h1, h2 with
  | 0, h1, h2 => simp [TRequest.encO] at h1; simp [TRequest.enc] at h2; subst h1; subst h2; exact .refl _
  | 1, h1, h2 => simp [TRequest.encO] at h1; simp [TRequest.enc] at h2; subst h1; subst h2; exact view_flat (fun o ho => h o (by simp [TRequest.inn, ho])) TPair.flat.cells
  | 2, h1, h2 => simp [TRequest.encO] at h1; simp [TRequest.enc] at h2; subst h1; subst h2; exact view_flat (fun o ho => h o (by simp [TRequest.inn, ho])) TPair.flat.cells
  | j + 3, h1, h2 => simp [TRequest.encO] at h1
theorem view_ORequest {S : List AObj} {s : SL TRequest} (hs : ∀ o, o ∈ s.wood 3 TRequest.encO TRequest.inn → o ∈ S) : View S (s.ref 3) (s.av 3 TRequest.enc) :=
  view_wood hs (fun x => TRequest.cells x) (fun _ => rfl) fun x h => TRequest.viewO x h
theorem view_ARequest {S : List AObj} {s : TRequest} (hs : ∀ o, o ∈ s.inn → o ∈ S) : View S (.agg s.encO) (.agg s.enc) :=
  .agg rfl (fun j a ha => TRequest.cells s a (List.mem_of_getElem? ha)) (TRequest.viewO s hs)
theorem toRequestO {x : TRequest} (h : x.sz ≤ 1048576) (c : Nat) : Con Try.prog 100 [.agg x.enc] [] c fun r O _ => ∃ b : TRequest, r = .agg b.encO ∧ O = b.inn ∧ b.con = x.con := by
  simp only [TRequest.sz] at h
  refine con_of c100 (by simp [F100]) ?_
  unfold F100
  simp [putA]
  refine call_new (toPairSO (by omega) _) (Views.refl _ _) fun r1 O1 c1 hc1 ⟨b1, hr, hO, q1⟩ _ _ => ?_
  subst hr; subst hO
  refine ⟨_, .refl _, free_ref _ _ _, fun o ho => flat_free TPair.flat _ _ o ho _, ?_⟩
  simp [putA]
  refine call_new (toPairSO (by omega) _) (Views.refl _ _) fun r2 O2 c2 hc2 ⟨b2, hr, hO, q2⟩ _ _ => ?_
  subst hr; subst hO
  refine ⟨_, .refl _, free_ref _ _ _, fun o ho => flat_free TPair.flat _ _ o ho _, ?_⟩
  simp [putA]
  refine fin_sub (Hk := b1.wood 2 TPair.enc noInn ++ (b2.wood 2 TPair.enc noInn)) ?_ (.refl _) ⟨⟨x.Path, b1, b2⟩, rfl, by simp [TRequest.inn], by simp [TRequest.con, SL.con, SL.pcon, q1, q2]⟩
  exact ((List.Sublist.refl _).cons _).cons _ |>.cons _
def TResponse.encO (s : TResponse) : List AV := [.int .i64 s.Code, s.Headers.ref 2, .str s.Body]
def TResponse.inn (s : TResponse) : List AObj := s.Headers.wood 2 THeader.enc noInn
@[simp] theorem TResponse.lenO (s : TResponse) : s.encO.length = 3 := (rfl)
@[simp] theorem TResponse.allO (s : TResponse) : s.encO.take 3 = s.encO := (rfl)
@[simp] theorem TResponse.o0 (s : TResponse) (K : AV → Prop) : getW s.encO 0 K = K (.int .i64 s.Code) := by simp [TResponse.encO]
@[simp] theorem TResponse.o1 (s : TResponse) (K : AV → Prop) : getW s.encO 1 K = K (s.Headers.ref 2) := by simp [TResponse.encO]
@[simp] theorem TResponse.o2 (s : TResponse) (K : AV → Prop) : getW s.encO 2 K = K (.str s.Body) := by simp [TResponse.encO]
theorem TResponse.freeO : ∀ (x : TResponse) a, a ∈ x.encO → Free a := fun x a ha => by
  simp [TResponse.encO] at ha
  rcases ha with rfl | rfl | rfl
  · exact free_int _ _
  · exact free_ref _ _
  · exact free_str _
theorem TResponse.freeI : ∀ (x : TResponse) o, o ∈ x.inn → ∀ T, AvRows T o := fun x o ho => by
  exact flat_free THeader.flat _ _ o ho
theorem TResponse.viewO {S : List AObj} (x : TResponse) (h : ∀ o, o ∈ x.inn → o ∈ S) : ∀ (j : Nat) (a a' : AV), x.encO[j]? = some a → x.enc[j]? = some a' → View S a a' := fun j a a' h1 h2 => by
  match j, h1, h2 with
  | 0, h1, h2 => simp [TResponse.encO] at h1; simp [TResponse.enc] at h2; subst h1; subst h2; exact .refl _
  | 1, h1, h2 => simp [TResponse.encO] at h1; simp [TResponse.enc] at h2; subst h1; subst h2; exact view_flat (fun o ho => h o (by simp [TResponse.inn, ho])) THeader.flat.cells
  | 2, h1, h2 => simp [TResponse.encO] at h1; simp [TResponse.enc] at h2; subst h1; subst h2; exact .refl _
  | j + 3, h1, h2 => simp [TResponse.encO] at h1
theorem view_OResponse {S : List AObj} {s : SL TResponse} (hs : ∀ o, o ∈ s.wood 3 TResponse.encO TResponse.inn → o ∈ S) : View S (s.ref 3) (s.av 3 TResponse.enc) :=
  view_wood hs (fun x => TResponse.cells x) (fun _ => rfl) fun x h => TResponse.viewO x h
theorem view_AResponse {S : List AObj} {s : TResponse} (hs : ∀ o, o ∈ s.inn → o ∈ S) : View S (.agg s.encO) (.agg s.enc) :=
  .agg rfl (fun j a ha => TResponse.cells s a (List.mem_of_getElem? ha)) (TResponse.viewO s hs)
theorem toResponseO {x : TResponse} (h : x.sz ≤ 1048576) (c : Nat) : Con Try.prog 101 [.agg x.enc] [] c fun r O _ => ∃ b : TResponse, r = .agg b.encO ∧ O = b.inn ∧ b.con = x.con := by
  simp only [TResponse.sz] at h
  refine con_of c101 (by simp [F101]) ?_
  unfold F101
  simp [putA]
  refine call_new (toHeaderSO (by omega) _) (Views.refl _ _) fun r1 O1 c1 hc1 ⟨b1, hr, hO, q1⟩ _ _ => ?_
  subst hr; subst hO
  refine ⟨_, .refl _, free_ref _ _ _, fun o ho => flat_free THeader.flat _ _ o ho _, ?_⟩
  simp [putA]
  refine fin_sub (Hk := b1.wood 2 THeader.enc noInn) ?_ (.refl _) ⟨⟨x.Code, b1, x.Body⟩, rfl, by simp [TResponse.inn], by simp [TResponse.con, SL.con, SL.pcon, q1]⟩
  exact ((List.Sublist.refl _).cons _).cons _ |>.cons _
def TJob.encO (s : TJob) : List AV := [.int .i64 s.Id, .str s.Request.Path, s.Request.Query.ref 2, s.Request.Cookies.ref 2, .str s.Session]
def TJob.inn (s : TJob) : List AObj := s.Request.Query.wood 2 TPair.enc noInn ++ (s.Request.Cookies.wood 2 TPair.enc noInn)
@[simp] theorem TJob.lenO (s : TJob) : s.encO.length = 5 := (rfl)
@[simp] theorem TJob.allO (s : TJob) : s.encO.take 5 = s.encO := (rfl)
@[simp] theorem TJob.o0 (s : TJob) (K : AV → Prop) : getW s.encO 0 K = K (.int .i64 s.Id) := by simp [TJob.encO]
@[simp] theorem TJob.o1 (s : TJob) (K : AV → Prop) : getW s.encO 1 K = K (.str s.Request.Path) := by simp [TJob.encO]
@[simp] theorem TJob.o2 (s : TJob) (K : AV → Prop) : getW s.encO 2 K = K (s.Request.Query.ref 2) := by simp [TJob.encO]
@[simp] theorem TJob.o3 (s : TJob) (K : AV → Prop) : getW s.encO 3 K = K (s.Request.Cookies.ref 2) := by simp [TJob.encO]
@[simp] theorem TJob.o4 (s : TJob) (K : AV → Prop) : getW s.encO 4 K = K (.str s.Session) := by simp [TJob.encO]
theorem TJob.freeO : ∀ (x : TJob) a, a ∈ x.encO → Free a := fun x a ha => by
  simp [TJob.encO] at ha
  rcases ha with rfl | rfl | rfl | rfl | rfl
  · exact free_int _ _
  · exact free_str _
  · exact free_ref _ _
  · exact free_ref _ _
  · exact free_str _
theorem TJob.freeI : ∀ (x : TJob) o, o ∈ x.inn → ∀ T, AvRows T o := fun x o ho => by
  simp only [TJob.inn, List.mem_append] at ho
  rcases ho with ho | ho
  · exact flat_free TPair.flat _ _ o ho
  · exact flat_free TPair.flat _ _ o ho
theorem TJob.viewO {S : List AObj} (x : TJob) (h : ∀ o, o ∈ x.inn → o ∈ S) : ∀ (j : Nat) (a a' : AV), x.encO[j]? = some a → x.enc[j]? = some a' → View S a a' := fun j a a' h1 h2 => by
  match j, h1, h2 with
  | 0, h1, h2 => simp [TJob.encO] at h1; simp [TJob.enc] at h2; subst h1; subst h2; exact .refl _
  | 1, h1, h2 => simp [TJob.encO] at h1; simp [TJob.enc] at h2; subst h1; subst h2; exact .refl _
  | 2, h1, h2 => simp [TJob.encO] at h1; simp [TJob.enc] at h2; subst h1; subst h2; exact view_flat (fun o ho => h o (by simp [TJob.inn, ho])) TPair.flat.cells
  | 3, h1, h2 => simp [TJob.encO] at h1; simp [TJob.enc] at h2; subst h1; subst h2; exact view_flat (fun o ho => h o (by simp [TJob.inn, ho])) TPair.flat.cells
  | 4, h1, h2 => simp [TJob.encO] at h1; simp [TJob.enc] at h2; subst h1; subst h2; exact .refl _
  | j + 5, h1, h2 => simp [TJob.encO] at h1
theorem view_OJob {S : List AObj} {s : SL TJob} (hs : ∀ o, o ∈ s.wood 5 TJob.encO TJob.inn → o ∈ S) : View S (s.ref 5) (s.av 5 TJob.enc) :=
  view_wood hs (fun x => TJob.cells x) (fun _ => rfl) fun x h => TJob.viewO x h
theorem view_AJob {S : List AObj} {s : TJob} (hs : ∀ o, o ∈ s.inn → o ∈ S) : View S (.agg s.encO) (.agg s.enc) :=
  .agg rfl (fun j a ha => TJob.cells s a (List.mem_of_getElem? ha)) (TJob.viewO s hs)
theorem toJobO {x : TJob} (h : x.sz ≤ 1048576) (c : Nat) : Con Try.prog 87 [.agg x.enc] [] c fun r O _ => ∃ b : TJob, r = .agg b.encO ∧ O = b.inn ∧ b.con = x.con := by
  simp only [TJob.sz] at h
  refine con_of c87 (by simp [F87]) ?_
  unfold F87
  simp [putA]
  refine call_new (toRequestO (by omega) _) (Views.refl _ _) fun r1 O1 c1 hc1 ⟨b1, hr, hO, q1⟩ _ _ => ?_
  subst hr; subst hO
  refine ⟨_, .refl _, free_agg (TRequest.freeO b1) _, fun o ho => TRequest.freeI b1 o ho _, ?_⟩
  simp [putA]
  refine fin_sub (Hk := b1.inn) ?_ (.refl _) ⟨⟨x.Id, b1, x.Session⟩, rfl, by simp [TJob.inn, TRequest.inn], by simp [TJob.con, SL.con, SL.pcon, q1]⟩
  exact ((List.Sublist.refl _).cons _).cons _ |>.cons _
theorem toJobSO {s : SL TJob} (h : szJobS s ≤ 1048576) (c : Nat) : Con Try.prog 56 [s.av 5 TJob.enc] [] c fun r H' _ => ∃ b : SL TJob, r = b.ref 5 ∧ H' = b.wood 5 TJob.encO TJob.inn ∧ b.list.map TJob.con = s.list.map TJob.con := by
  unfold szJobS at h
  exact toSO_fn (g := 87) (z := [.int .i64 0, .str [], .nsl, .nsl, .str []]) (bytes := 88) c56 rfl (fun _ => rfl) (fun _ => rfl) TJob.freeO TJob.freeI (by omega) (by omega)
    (fun x hx c => toJobO (by have := szL_mem (sz := TJob.sz) hx; omega) c) c
def mkJob (k : Int) (x : TJob) : TJob := ⟨k, ⟨mtext (k + 1), x.Request.Query.marks mkPair cPair (k + 1 + 1), x.Request.Cookies.marks mkPair cPair (k + 1 + 1 + szL cPair x.Request.Query.list)⟩, mtext (k + 1 + 1 + szL cPair x.Request.Query.list + szL cPair x.Request.Cookies.list)⟩
def cJob (x : TJob) : Nat := 3 + szL cPair x.Request.Query.list + szL cPair x.Request.Cookies.list
theorem markJob_nil (k : Int) : Fnc Try.prog 69 [.nsl, .int .i64 k] (.int .i64 k) := by
  refine fn_of c69 (by simp [F69]) fun c => ?_
  unfold F69
  simp
  refine loop_drop 0 (fun i e H c' => e 0 = .nsl ∧ e 1 = .int .i64 k ∧ e 5 = .int .i64 0 ∧ H = []) ⟨rfl, rfl, rfl, rfl⟩ ?_
  intro i e H c hi ⟨e0, e1, e5, hH⟩ N hN
  subst hH
  simp [e0, e1, e5]
  exact fin_plain ⟨rfl, rfl⟩
theorem szL_cJob (l : List TJob) : l.length ≤ szL cJob l := by
  induction l with
  | nil => simp
  | cons x l ih => simp [szL, cJob] at ih ⊢; omega
theorem mkJob_encO (k : Int) (x : TJob) : (mkJob k x).encO = [.int .i64 (k), .str (mtext (k + 1)), x.Request.Query.ref 2, x.Request.Cookies.ref 2, .str (mtext (k + 1 + 1 + szL cPair x.Request.Query.list + szL cPair x.Request.Cookies.list))] := by
  simp [mkJob, TJob.encO, SL.marks_ref]
theorem mkJob_tags (k : Int) (x : TJob) : tags (mkJob k x).inn = tags x.inn := by
  have eT : ∀ X Y : List AObj, tags (X ++ Y) = tags X ++ tags Y := fun X Y => by simp [tags]
  simp only [TJob.inn, mkJob, eT, flat_marks (enc := TPair.enc) (w := 2) mkPair cPair]
theorem markJob_con1 {l : List TJob} (hz : szL cJob l ≤ 16777216) {k : Int} (hk : 0 ≤ k ∧ k ≤ 549755813888) (t c : Nat) :
    Con Try.prog 69 [.ref 0 t 5 l.length, .int .i64 k] (wood t 5 TJob.encO TJob.inn l) c fun r H' _ => r = .int .i64 (k + szL cJob l) ∧ H' = wood t 5 TJob.encO TJob.inn (mks mkJob cJob k l) := by
  have hln := szL_cJob l
  refine con_of c69 (by simp [F69]) ?_
  unfold F69
  simp
  refine loop_drop l.length (fun i e H c' => e 0 = .ref 0 t 5 l.length ∧ e 1 = .int .i64 (k + szL cJob (l.take i)) ∧ e 5 = .int .i64 i ∧ H = ⟨false, t, 5, (mixed mkJob cJob k l i).map TJob.encO⟩ :: (mixed mkJob cJob k l i).flatMap TJob.inn) ⟨rfl, by simp [szL], rfl, by rw [mixed_zero]; rfl⟩ ?_
  intro i e H c hi ⟨e0, e1, e5, hH⟩ N hN
  subst hH
  have hs := mixed_set mkJob cJob k l (i := i)
  have hst := fun h : i < l.length => szL_step cJob l h
  have hle := szL_le cJob l i
  have hle1 := szL_le cJob l (i + 1)
  have hfl := fun h : i < l.length => mixed_flat (mk := mkJob) (cnt := cJob) (k := k) (inn := TJob.inn) h
  have hfl' := fun h : i < l.length => mixed_flat' (mk := mkJob) (cnt := cJob) (k := k) (inn := TJob.inn) h
  generalize hjj : k + (szL cJob (l.take i) : Int) = j at e1 hs hfl'
  simp [e0, e1, e5]
  refine ⟨fun h => ?_, fun h => ?_⟩
  · have hs := hs h
    have hst := hst h
    have hg := mixed_get mkJob cJob k l h
    have hx := szL_mem (sz := cJob) (List.getElem_mem h)
    rw [hfl h]
    have hfl' := hfl' h
    generalize l[i] = x at hs hst hg hx hfl'
    generalize (mks mkJob cJob k (l.take i)).flatMap TJob.inn = PRE at hfl' ⊢
    generalize (l.drop (i + 1)).flatMap TJob.inn = POST at hfl' ⊢
    simp only [cJob] at hx hst
    have w0 : IntKind.i64.wrap (j + 1) = j + 1 := wrap64 (by omega) (by omega)
    have w1 : IntKind.i64.wrap (j + 1 + 1) = j + 1 + 1 := wrap64 (by omega) (by omega)
    have w4 : IntKind.i64.wrap (j + 1 + 1 + szL cPair x.Request.Query.list + szL cPair x.Request.Cookies.list + 1) = j + 1 + 1 + szL cPair x.Request.Query.list + szL cPair x.Request.Cookies.list + 1 := wrap64 (by omega) (by omega)
    refine ⟨h, x, hg, ?_⟩
    simp [e0, e1, e5, h, mixed_len, w0, w1, w4, putA, TJob.encO, TJob.inn]
    refine call_fn0 (mtext_fn (by omega)) .str fun _ _ => ?_
    simp [e0, e1, e5, h, mixed_len, w0, w1, w4, putA, TJob.encO, TJob.inn]
    refine call_midr (f := 96) (B := x.Request.Query.wood 2 TPair.enc noInn) (markPair_con (s := x.Request.Query) (by omega) (k := j + 1 + 1) ⟨by omega, by omega⟩ _) (Views.refl _ _) fun r B' c' hc ⟨q1, q2⟩ => ?_
    subst q1; subst q2
    refine ⟨flat_marks (enc := TPair.enc) (w := 2) mkPair cPair _ x.Request.Query, .int, fun o ho => flat_free TPair.flat _ _ o ho _, ?_⟩
    simp [e0, e1, e5, h, mixed_len, w0, w1, w4, putA, TJob.encO, TJob.inn]
    refine call_mid2 (f := 96) (B := x.Request.Cookies.wood 2 TPair.enc noInn) (markPair_con (s := x.Request.Cookies) (by omega) (k := j + 1 + 1 + szL cPair x.Request.Query.list) ⟨by omega, by omega⟩ _) (Views.refl _ _) fun r B' c' hc ⟨q1, q2⟩ => ?_
    subst q1; subst q2
    refine ⟨flat_marks (enc := TPair.enc) (w := 2) mkPair cPair _ x.Request.Cookies, .int, fun o ho => flat_free TPair.flat _ _ o ho _, ?_⟩
    simp [e0, e1, e5, h, mixed_len, w0, w1, w4, putA, TJob.encO, TJob.inn]
    refine call_fn0 (mtext_fn (by omega)) .str fun _ _ => ?_
    simp [e0, e1, e5, h, mixed_len, w0, w1, w4, putA, TJob.encO, TJob.inn]
    refine hN _ _ _ _ h (List.Sublist.refl _) ⟨by simp [upd, e0], ?_, by simp [upd]; exact step64 (by unfold mx; omega) h, ?_⟩
    · simp [upd, w0, w1, w4, hst]; omega
    · rw [hfl', ← hs, List.map_set, mkJob_encO]
      simp [mkJob, TJob.inn]
  · have h1 : i = l.length := by omega
    subst h1
    refine fin_all ⟨?_, ?_⟩
    · rw [← hjj]; simp
    · rw [mixed_all]; rfl
theorem markJob_con {s : SL TJob} (hz : szL cJob s.list ≤ 16777216) {k : Int} (hk : 0 ≤ k ∧ k ≤ 549755813888) (c : Nat) :
    Con Try.prog 69 [s.ref 5, .int .i64 k] (s.wood 5 TJob.encO TJob.inn) c fun r H' _ => r = .int .i64 (k + szL cJob s.list) ∧ H' = (s.marks mkJob cJob k).wood 5 TJob.encO TJob.inn := by
  cases s with
  | nil =>
    have := markJob_nil k c
    simpa [SL.ref, SL.wood, SL.marks, szL] using this
  | mk t l =>
    have := markJob_con1 (l := l) hz hk t c
    exact this
def TWorker.encO (s : TWorker) : List AV := [.int .i64 s.State, .int .i64 s.Job.Id, .str s.Job.Request.Path, s.Job.Request.Query.ref 2, s.Job.Request.Cookies.ref 2, .str s.Job.Session, .str s.Data, s.Files.ref 3, .int .i64 s.Served]
def TWorker.inn (s : TWorker) : List AObj := s.Job.Request.Query.wood 2 TPair.enc noInn ++ (s.Job.Request.Cookies.wood 2 TPair.enc noInn ++ (s.Files.wood 3 TFile.enc noInn))
@[simp] theorem TWorker.lenO (s : TWorker) : s.encO.length = 9 := (rfl)
@[simp] theorem TWorker.allO (s : TWorker) : s.encO.take 9 = s.encO := (rfl)
@[simp] theorem TWorker.o0 (s : TWorker) (K : AV → Prop) : getW s.encO 0 K = K (.int .i64 s.State) := by simp [TWorker.encO]
@[simp] theorem TWorker.o1 (s : TWorker) (K : AV → Prop) : getW s.encO 1 K = K (.int .i64 s.Job.Id) := by simp [TWorker.encO]
@[simp] theorem TWorker.o2 (s : TWorker) (K : AV → Prop) : getW s.encO 2 K = K (.str s.Job.Request.Path) := by simp [TWorker.encO]
@[simp] theorem TWorker.o3 (s : TWorker) (K : AV → Prop) : getW s.encO 3 K = K (s.Job.Request.Query.ref 2) := by simp [TWorker.encO]
@[simp] theorem TWorker.o4 (s : TWorker) (K : AV → Prop) : getW s.encO 4 K = K (s.Job.Request.Cookies.ref 2) := by simp [TWorker.encO]
@[simp] theorem TWorker.o5 (s : TWorker) (K : AV → Prop) : getW s.encO 5 K = K (.str s.Job.Session) := by simp [TWorker.encO]
@[simp] theorem TWorker.o6 (s : TWorker) (K : AV → Prop) : getW s.encO 6 K = K (.str s.Data) := by simp [TWorker.encO]
@[simp] theorem TWorker.o7 (s : TWorker) (K : AV → Prop) : getW s.encO 7 K = K (s.Files.ref 3) := by simp [TWorker.encO]
@[simp] theorem TWorker.o8 (s : TWorker) (K : AV → Prop) : getW s.encO 8 K = K (.int .i64 s.Served) := by simp [TWorker.encO]
theorem TWorker.freeO : ∀ (x : TWorker) a, a ∈ x.encO → Free a := fun x a ha => by
  simp [TWorker.encO] at ha
  rcases ha with rfl | rfl | rfl | rfl | rfl | rfl | rfl | rfl | rfl
  · exact free_int _ _
  · exact free_int _ _
  · exact free_str _
  · exact free_ref _ _
  · exact free_ref _ _
  · exact free_str _
  · exact free_str _
  · exact free_ref _ _
  · exact free_int _ _
theorem TWorker.freeI : ∀ (x : TWorker) o, o ∈ x.inn → ∀ T, AvRows T o := fun x o ho => by
  simp only [TWorker.inn, List.mem_append] at ho
  rcases ho with ho | ho | ho
  · exact flat_free TPair.flat _ _ o ho
  · exact flat_free TPair.flat _ _ o ho
  · exact flat_free TFile.flat _ _ o ho
theorem TWorker.viewO {S : List AObj} (x : TWorker) (h : ∀ o, o ∈ x.inn → o ∈ S) : ∀ (j : Nat) (a a' : AV), x.encO[j]? = some a → x.enc[j]? = some a' → View S a a' := fun j a a' h1 h2 => by
  match j, h1, h2 with
  | 0, h1, h2 => simp [TWorker.encO] at h1; simp [TWorker.enc] at h2; subst h1; subst h2; exact .refl _
  | 1, h1, h2 => simp [TWorker.encO] at h1; simp [TWorker.enc] at h2; subst h1; subst h2; exact .refl _
  | 2, h1, h2 => simp [TWorker.encO] at h1; simp [TWorker.enc] at h2; subst h1; subst h2; exact .refl _
  | 3, h1, h2 => simp [TWorker.encO] at h1; simp [TWorker.enc] at h2; subst h1; subst h2; exact view_flat (fun o ho => h o (by simp [TWorker.inn, ho])) TPair.flat.cells
  | 4, h1, h2 => simp [TWorker.encO] at h1; simp [TWorker.enc] at h2; subst h1; subst h2; exact view_flat (fun o ho => h o (by simp [TWorker.inn, ho])) TPair.flat.cells
  | 5, h1, h2 => simp [TWorker.encO] at h1; simp [TWorker.enc] at h2; subst h1; subst h2; exact .refl _
  | 6, h1, h2 => simp [TWorker.encO] at h1; simp [TWorker.enc] at h2; subst h1; subst h2; exact .refl _
  | 7, h1, h2 => simp [TWorker.encO] at h1; simp [TWorker.enc] at h2; subst h1; subst h2; exact view_flat (fun o ho => h o (by simp [TWorker.inn, ho])) TFile.flat.cells
  | 8, h1, h2 => simp [TWorker.encO] at h1; simp [TWorker.enc] at h2; subst h1; subst h2; exact .refl _
  | j + 9, h1, h2 => simp [TWorker.encO] at h1
theorem view_OWorker {S : List AObj} {s : SL TWorker} (hs : ∀ o, o ∈ s.wood 9 TWorker.encO TWorker.inn → o ∈ S) : View S (s.ref 9) (s.av 9 TWorker.enc) :=
  view_wood hs (fun x => TWorker.cells x) (fun _ => rfl) fun x h => TWorker.viewO x h
theorem view_AWorker {S : List AObj} {s : TWorker} (hs : ∀ o, o ∈ s.inn → o ∈ S) : View S (.agg s.encO) (.agg s.enc) :=
  .agg rfl (fun j a ha => TWorker.cells s a (List.mem_of_getElem? ha)) (TWorker.viewO s hs)
theorem toWorkerO {x : TWorker} (h : x.sz ≤ 1048576) (c : Nat) : Con Try.prog 88 [.agg x.enc] [] c fun r O _ => ∃ b : TWorker, r = .agg b.encO ∧ O = b.inn ∧ b.con = x.con := by
  simp only [TWorker.sz] at h
  refine con_of c88 (by simp [F88]) ?_
  unfold F88
  simp [putA]
  refine call_new (toJobO (by omega) _) (Views.refl _ _) fun r1 O1 c1 hc1 ⟨b1, hr, hO, q1⟩ _ _ => ?_
  subst hr; subst hO
  refine ⟨_, .refl _, free_agg (TJob.freeO b1) _, fun o ho => TJob.freeI b1 o ho _, ?_⟩
  simp [putA]
  refine call_new (toFileSO (by omega) _) (Views.refl _ _) fun r2 O2 c2 hc2 ⟨b2, hr, hO, q2⟩ _ _ => ?_
  subst hr; subst hO
  refine ⟨_, .refl _, free_ref _ _ _, fun o ho => flat_free TFile.flat _ _ o ho _, ?_⟩
  simp [putA]
  refine fin_sub (Hk := b1.inn ++ (b2.wood 3 TFile.enc noInn)) ?_ (.refl _) ⟨⟨x.State, b1, x.Data, b2, x.Served⟩, rfl, by simp [TWorker.inn, TJob.inn], by simp [TWorker.con, SL.con, SL.pcon, q1, q2]⟩
  exact ((List.Sublist.refl _).cons _).cons _ |>.cons _
theorem toWorkerSO {s : SL TWorker} (h : szWorkerS s ≤ 1048576) (c : Nat) : Con Try.prog 57 [s.av 9 TWorker.enc] [] c fun r H' _ => ∃ b : SL TWorker, r = b.ref 9 ∧ H' = b.wood 9 TWorker.encO TWorker.inn ∧ b.list.map TWorker.con = s.list.map TWorker.con := by
  unfold szWorkerS at h
  exact toSO_fn (g := 88) (z := [.int .i64 0, .int .i64 0, .str [], .nsl, .nsl, .str [], .str [], .nsl, .int .i64 0]) (bytes := 144) c57 rfl (fun _ => rfl) (fun _ => rfl) TWorker.freeO TWorker.freeI (by omega) (by omega)
    (fun x hx c => toWorkerO (by have := szL_mem (sz := TWorker.sz) hx; omega) c) c
def mkWorker (k : Int) (x : TWorker) : TWorker := ⟨k, ⟨k + 1, ⟨mtext (k + 1 + 1), x.Job.Request.Query.marks mkPair cPair (k + 1 + 1 + 1), x.Job.Request.Cookies.marks mkPair cPair (k + 1 + 1 + 1 + szL cPair x.Job.Request.Query.list)⟩, mtext (k + 1 + 1 + 1 + szL cPair x.Job.Request.Query.list + szL cPair x.Job.Request.Cookies.list)⟩, mtext (k + 1 + 1 + 1 + szL cPair x.Job.Request.Query.list + szL cPair x.Job.Request.Cookies.list + 1), x.Files.marks mkFile cFile (k + 1 + 1 + 1 + szL cPair x.Job.Request.Query.list + szL cPair x.Job.Request.Cookies.list + 1 + 1), k + 1 + 1 + 1 + szL cPair x.Job.Request.Query.list + szL cPair x.Job.Request.Cookies.list + 1 + 1 + szL cFile x.Files.list⟩
def cWorker (x : TWorker) : Nat := 6 + szL cPair x.Job.Request.Query.list + szL cPair x.Job.Request.Cookies.list + szL cFile x.Files.list
theorem markWorker_nil (k : Int) : Fnc Try.prog 70 [.nsl, .int .i64 k] (.int .i64 k) := by
  refine fn_of c70 (by simp [F70]) fun c => ?_
  unfold F70
  simp
  refine loop_drop 0 (fun i e H c' => e 0 = .nsl ∧ e 1 = .int .i64 k ∧ e 5 = .int .i64 0 ∧ H = []) ⟨rfl, rfl, rfl, rfl⟩ ?_
  intro i e H c hi ⟨e0, e1, e5, hH⟩ N hN
  subst hH
  simp [e0, e1, e5]
  exact fin_plain ⟨rfl, rfl⟩
theorem szL_cWorker (l : List TWorker) : l.length ≤ szL cWorker l := by
  induction l with
  | nil => simp
  | cons x l ih => simp [szL, cWorker] at ih ⊢; omega
theorem mkWorker_encO (k : Int) (x : TWorker) : (mkWorker k x).encO = [.int .i64 (k), .int .i64 (k + 1), .str (mtext (k + 1 + 1)), x.Job.Request.Query.ref 2, x.Job.Request.Cookies.ref 2, .str (mtext (k + 1 + 1 + 1 + szL cPair x.Job.Request.Query.list + szL cPair x.Job.Request.Cookies.list)), .str (mtext (k + 1 + 1 + 1 + szL cPair x.Job.Request.Query.list + szL cPair x.Job.Request.Cookies.list + 1)), x.Files.ref 3, .int .i64 (k + 1 + 1 + 1 + szL cPair x.Job.Request.Query.list + szL cPair x.Job.Request.Cookies.list + 1 + 1 + szL cFile x.Files.list)] := by
  simp [mkWorker, TWorker.encO, SL.marks_ref]
theorem mkWorker_tags (k : Int) (x : TWorker) : tags (mkWorker k x).inn = tags x.inn := by
  have eT : ∀ X Y : List AObj, tags (X ++ Y) = tags X ++ tags Y := fun X Y => by simp [tags]
  simp only [TWorker.inn, mkWorker, eT, flat_marks (enc := TPair.enc) (w := 2) mkPair cPair, flat_marks (enc := TFile.enc) (w := 3) mkFile cFile]
theorem markWorker_con1 {l : List TWorker} (hz : szL cWorker l ≤ 16777216) {k : Int} (hk : 0 ≤ k ∧ k ≤ 549755813888) (t c : Nat) :
    Con Try.prog 70 [.ref 0 t 9 l.length, .int .i64 k] (wood t 9 TWorker.encO TWorker.inn l) c fun r H' _ => r = .int .i64 (k + szL cWorker l) ∧ H' = wood t 9 TWorker.encO TWorker.inn (mks mkWorker cWorker k l) := by
  have hln := szL_cWorker l
  refine con_of c70 (by simp [F70]) ?_
  unfold F70
  simp
  refine loop_drop l.length (fun i e H c' => e 0 = .ref 0 t 9 l.length ∧ e 1 = .int .i64 (k + szL cWorker (l.take i)) ∧ e 5 = .int .i64 i ∧ H = ⟨false, t, 9, (mixed mkWorker cWorker k l i).map TWorker.encO⟩ :: (mixed mkWorker cWorker k l i).flatMap TWorker.inn) ⟨rfl, by simp [szL], rfl, by rw [mixed_zero]; rfl⟩ ?_
  intro i e H c hi ⟨e0, e1, e5, hH⟩ N hN
  subst hH
  have hs := mixed_set mkWorker cWorker k l (i := i)
  have hst := fun h : i < l.length => szL_step cWorker l h
  have hle := szL_le cWorker l i
  have hle1 := szL_le cWorker l (i + 1)
  have hfl := fun h : i < l.length => mixed_flat (mk := mkWorker) (cnt := cWorker) (k := k) (inn := TWorker.inn) h
  have hfl' := fun h : i < l.length => mixed_flat' (mk := mkWorker) (cnt := cWorker) (k := k) (inn := TWorker.inn) h
  generalize hjj : k + (szL cWorker (l.take i) : Int) = j at e1 hs hfl'
  simp [e0, e1, e5]
  refine ⟨fun h => ?_, fun h => ?_⟩
  · have hs := hs h
    have hst := hst h
    have hg := mixed_get mkWorker cWorker k l h
    have hx := szL_mem (sz := cWorker) (List.getElem_mem h)
    rw [hfl h]
    have hfl' := hfl' h
    generalize l[i] = x at hs hst hg hx hfl'
    generalize (mks mkWorker cWorker k (l.take i)).flatMap TWorker.inn = PRE at hfl' ⊢
    generalize (l.drop (i + 1)).flatMap TWorker.inn = POST at hfl' ⊢
    simp only [cWorker] at hx hst
    have w0 : IntKind.i64.wrap (j + 1) = j + 1 := wrap64 (by omega) (by omega)
    have w1 : IntKind.i64.wrap (j + 1 + 1) = j + 1 + 1 := wrap64 (by omega) (by omega)
    have w2 : IntKind.i64.wrap (j + 1 + 1 + 1) = j + 1 + 1 + 1 := wrap64 (by omega) (by omega)
    have w5 : IntKind.i64.wrap (j + 1 + 1 + 1 + szL cPair x.Job.Request.Query.list + szL cPair x.Job.Request.Cookies.list + 1) = j + 1 + 1 + 1 + szL cPair x.Job.Request.Query.list + szL cPair x.Job.Request.Cookies.list + 1 := wrap64 (by omega) (by omega)
    have w6 : IntKind.i64.wrap (j + 1 + 1 + 1 + szL cPair x.Job.Request.Query.list + szL cPair x.Job.Request.Cookies.list + 1 + 1) = j + 1 + 1 + 1 + szL cPair x.Job.Request.Query.list + szL cPair x.Job.Request.Cookies.list + 1 + 1 := wrap64 (by omega) (by omega)
    have w8 : IntKind.i64.wrap (j + 1 + 1 + 1 + szL cPair x.Job.Request.Query.list + szL cPair x.Job.Request.Cookies.list + 1 + 1 + szL cFile x.Files.list + 1) = j + 1 + 1 + 1 + szL cPair x.Job.Request.Query.list + szL cPair x.Job.Request.Cookies.list + 1 + 1 + szL cFile x.Files.list + 1 := wrap64 (by omega) (by omega)
    refine ⟨h, x, hg, ?_⟩
    simp [e0, e1, e5, h, mixed_len, w0, w1, w2, w5, w6, w8, putA, TWorker.encO, TWorker.inn]
    refine call_fn0 (mtext_fn (by omega)) .str fun _ _ => ?_
    simp [e0, e1, e5, h, mixed_len, w0, w1, w2, w5, w6, w8, putA, TWorker.encO, TWorker.inn]
    refine call_midr (f := 96) (B := x.Job.Request.Query.wood 2 TPair.enc noInn) (markPair_con (s := x.Job.Request.Query) (by omega) (k := j + 1 + 1 + 1) ⟨by omega, by omega⟩ _) (Views.refl _ _) fun r B' c' hc ⟨q1, q2⟩ => ?_
    subst q1; subst q2
    refine ⟨flat_marks (enc := TPair.enc) (w := 2) mkPair cPair _ x.Job.Request.Query, .int, fun o ho => flat_free TPair.flat _ _ o ho _, ?_⟩
    simp [e0, e1, e5, h, mixed_len, w0, w1, w2, w5, w6, w8, putA, TWorker.encO, TWorker.inn]
    refine call_mid2 (f := 96) (B := x.Job.Request.Cookies.wood 2 TPair.enc noInn) (markPair_con (s := x.Job.Request.Cookies) (by omega) (k := j + 1 + 1 + 1 + szL cPair x.Job.Request.Query.list) ⟨by omega, by omega⟩ _) (Views.refl _ _) fun r B' c' hc ⟨q1, q2⟩ => ?_
    subst q1; subst q2
    refine ⟨flat_marks (enc := TPair.enc) (w := 2) mkPair cPair _ x.Job.Request.Cookies, .int, fun o ho => flat_free TPair.flat _ _ o ho _, ?_⟩
    simp [e0, e1, e5, h, mixed_len, w0, w1, w2, w5, w6, w8, putA, TWorker.encO, TWorker.inn]
    refine call_fn0 (mtext_fn (by omega)) .str fun _ _ => ?_
    simp [e0, e1, e5, h, mixed_len, w0, w1, w2, w5, w6, w8, putA, TWorker.encO, TWorker.inn]
    refine call_fn0 (mtext_fn (by omega)) .str fun _ _ => ?_
    simp [e0, e1, e5, h, mixed_len, w0, w1, w2, w5, w6, w8, putA, TWorker.encO, TWorker.inn]
    refine call_mid3 (f := 67) (B := x.Files.wood 3 TFile.enc noInn) (markFile_con (s := x.Files) (by omega) (k := j + 1 + 1 + 1 + szL cPair x.Job.Request.Query.list + szL cPair x.Job.Request.Cookies.list + 1 + 1) ⟨by omega, by omega⟩ _) (Views.refl _ _) fun r B' c' hc ⟨q1, q2⟩ => ?_
    subst q1; subst q2
    refine ⟨flat_marks (enc := TFile.enc) (w := 3) mkFile cFile _ x.Files, .int, fun o ho => flat_free TFile.flat _ _ o ho _, ?_⟩
    simp [e0, e1, e5, h, mixed_len, w0, w1, w2, w5, w6, w8, putA, TWorker.encO, TWorker.inn]
    refine hN _ _ _ _ h (List.Sublist.refl _) ⟨by simp [upd, e0], ?_, by simp [upd]; exact step64 (by unfold mx; omega) h, ?_⟩
    · simp [upd, w0, w1, w2, w5, w6, w8, hst]; omega
    · rw [hfl', ← hs, List.map_set, mkWorker_encO]
      simp [mkWorker, TWorker.inn]
  · have h1 : i = l.length := by omega
    subst h1
    refine fin_all ⟨?_, ?_⟩
    · rw [← hjj]; simp
    · rw [mixed_all]; rfl
theorem markWorker_con {s : SL TWorker} (hz : szL cWorker s.list ≤ 16777216) {k : Int} (hk : 0 ≤ k ∧ k ≤ 549755813888) (c : Nat) :
    Con Try.prog 70 [s.ref 9, .int .i64 k] (s.wood 9 TWorker.encO TWorker.inn) c fun r H' _ => r = .int .i64 (k + szL cWorker s.list) ∧ H' = (s.marks mkWorker cWorker k).wood 9 TWorker.encO TWorker.inn := by
  cases s with
  | nil =>
    have := markWorker_nil k c
    simpa [SL.ref, SL.wood, SL.marks, szL] using this
  | mk t l =>
    have := markWorker_con1 (l := l) hz hk t c
    exact this
def TAnswer.encO (s : TAnswer) : List AV := [.int .i64 s.Id, .str s.Session, s.Files.ref 3, .str s.Request.Path, s.Request.Query.ref 2, s.Request.Cookies.ref 2, .str s.Before, .int .i64 s.Response.Code, s.Response.Headers.ref 2, .str s.Response.Body, .str s.After]
def TAnswer.inn (s : TAnswer) : List AObj := s.Files.wood 3 TFile.enc noInn ++ (s.Request.Query.wood 2 TPair.enc noInn ++ (s.Request.Cookies.wood 2 TPair.enc noInn ++ (s.Response.Headers.wood 2 THeader.enc noInn)))
@[simp] theorem TAnswer.lenO (s : TAnswer) : s.encO.length = 11 := (rfl)
@[simp] theorem TAnswer.allO (s : TAnswer) : s.encO.take 11 = s.encO := (rfl)
@[simp] theorem TAnswer.o0 (s : TAnswer) (K : AV → Prop) : getW s.encO 0 K = K (.int .i64 s.Id) := by simp [TAnswer.encO]
@[simp] theorem TAnswer.o1 (s : TAnswer) (K : AV → Prop) : getW s.encO 1 K = K (.str s.Session) := by simp [TAnswer.encO]
@[simp] theorem TAnswer.o2 (s : TAnswer) (K : AV → Prop) : getW s.encO 2 K = K (s.Files.ref 3) := by simp [TAnswer.encO]
@[simp] theorem TAnswer.o3 (s : TAnswer) (K : AV → Prop) : getW s.encO 3 K = K (.str s.Request.Path) := by simp [TAnswer.encO]
@[simp] theorem TAnswer.o4 (s : TAnswer) (K : AV → Prop) : getW s.encO 4 K = K (s.Request.Query.ref 2) := by simp [TAnswer.encO]
@[simp] theorem TAnswer.o5 (s : TAnswer) (K : AV → Prop) : getW s.encO 5 K = K (s.Request.Cookies.ref 2) := by simp [TAnswer.encO]
@[simp] theorem TAnswer.o6 (s : TAnswer) (K : AV → Prop) : getW s.encO 6 K = K (.str s.Before) := by simp [TAnswer.encO]
@[simp] theorem TAnswer.o7 (s : TAnswer) (K : AV → Prop) : getW s.encO 7 K = K (.int .i64 s.Response.Code) := by simp [TAnswer.encO]
@[simp] theorem TAnswer.o8 (s : TAnswer) (K : AV → Prop) : getW s.encO 8 K = K (s.Response.Headers.ref 2) := by simp [TAnswer.encO]
@[simp] theorem TAnswer.o9 (s : TAnswer) (K : AV → Prop) : getW s.encO 9 K = K (.str s.Response.Body) := by simp [TAnswer.encO]
@[simp] theorem TAnswer.o10 (s : TAnswer) (K : AV → Prop) : getW s.encO 10 K = K (.str s.After) := by simp [TAnswer.encO]
theorem TAnswer.freeO : ∀ (x : TAnswer) a, a ∈ x.encO → Free a := fun x a ha => by
  simp [TAnswer.encO] at ha
  rcases ha with rfl | rfl | rfl | rfl | rfl | rfl | rfl | rfl | rfl | rfl | rfl
  · exact free_int _ _
  · exact free_str _
  · exact free_ref _ _
  · exact free_str _
  · exact free_ref _ _
  · exact free_ref _ _
  · exact free_str _
  · exact free_int _ _
  · exact free_ref _ _
  · exact free_str _
  · exact free_str _
theorem TAnswer.freeI : ∀ (x : TAnswer) o, o ∈ x.inn → ∀ T, AvRows T o := fun x o ho => by
  simp only [TAnswer.inn, List.mem_append] at ho
  rcases ho with ho | ho | ho | ho
  · exact flat_free TFile.flat _ _ o ho
  · exact flat_free TPair.flat _ _ o ho
  · exact flat_free TPair.flat _ _ o ho
  · exact flat_free THeader.flat _ _ o ho
theorem TAnswer.viewO {S : List AObj} (x : TAnswer) (h : ∀ o, o ∈ x.inn → o ∈ S) : ∀ (j : Nat) (a a' : AV), x.encO[j]? = some a → x.enc[j]? = some a' → View S a a' := fun j a a' h1 h2 => by
  match j, h1, h2 with
  | 0, h1, h2 => simp [TAnswer.encO] at h1; simp [TAnswer.enc] at h2; subst h1; subst h2; exact .refl _
  | 1, h1, h2 => simp [TAnswer.encO] at h1; simp [TAnswer.enc] at h2; subst h1; subst h2; exact .refl _
  | 2, h1, h2 => simp [TAnswer.encO] at h1; simp [TAnswer.enc] at h2; subst h1; subst h2; exact view_flat (fun o ho => h o (by simp [TAnswer.inn, ho])) TFile.flat.cells
  | 3, h1, h2 => simp [TAnswer.encO] at h1; simp [TAnswer.enc] at h2; subst h1; subst h2; exact .refl _
  | 4, h1, h2 => simp [TAnswer.encO] at h1; simp [TAnswer.enc] at h2; subst h1; subst h2; exact view_flat (fun o ho => h o (by simp [TAnswer.inn, ho])) TPair.flat.cells
  | 5, h1, h2 => simp [TAnswer.encO] at h1; simp [TAnswer.enc] at h2; subst h1; subst h2; exact view_flat (fun o ho => h o (by simp [TAnswer.inn, ho])) TPair.flat.cells
  | 6, h1, h2 => simp [TAnswer.encO] at h1; simp [TAnswer.enc] at h2; subst h1; subst h2; exact .refl _
  | 7, h1, h2 => simp [TAnswer.encO] at h1; simp [TAnswer.enc] at h2; subst h1; subst h2; exact .refl _
  | 8, h1, h2 => simp [TAnswer.encO] at h1; simp [TAnswer.enc] at h2; subst h1; subst h2; exact view_flat (fun o ho => h o (by simp [TAnswer.inn, ho])) THeader.flat.cells
  | 9, h1, h2 => simp [TAnswer.encO] at h1; simp [TAnswer.enc] at h2; subst h1; subst h2; exact .refl _
  | 10, h1, h2 => simp [TAnswer.encO] at h1; simp [TAnswer.enc] at h2; subst h1; subst h2; exact .refl _
  | j + 11, h1, h2 => simp [TAnswer.encO] at h1
theorem view_OAnswer {S : List AObj} {s : SL TAnswer} (hs : ∀ o, o ∈ s.wood 11 TAnswer.encO TAnswer.inn → o ∈ S) : View S (s.ref 11) (s.av 11 TAnswer.enc) :=
  view_wood hs (fun x => TAnswer.cells x) (fun _ => rfl) fun x h => TAnswer.viewO x h
theorem view_AAnswer {S : List AObj} {s : TAnswer} (hs : ∀ o, o ∈ s.inn → o ∈ S) : View S (.agg s.encO) (.agg s.enc) :=
  .agg rfl (fun j a ha => TAnswer.cells s a (List.mem_of_getElem? ha)) (TAnswer.viewO s hs)
theorem toAnswerO {x : TAnswer} (h : x.sz ≤ 1048576) (c : Nat) : Con Try.prog 89 [.agg x.enc] [] c fun r O _ => ∃ b : TAnswer, r = .agg b.encO ∧ O = b.inn ∧ b.con = x.con := by
  simp only [TAnswer.sz] at h
  refine con_of c89 (by simp [F89]) ?_
  unfold F89
  simp [putA]
  refine call_new (toFileSO (by omega) _) (Views.refl _ _) fun r1 O1 c1 hc1 ⟨b1, hr, hO, q1⟩ _ _ => ?_
  subst hr; subst hO
  refine ⟨_, .refl _, free_ref _ _ _, fun o ho => flat_free TFile.flat _ _ o ho _, ?_⟩
  simp [putA]
  refine call_new (toRequestO (by omega) _) (Views.refl _ _) fun r2 O2 c2 hc2 ⟨b2, hr, hO, q2⟩ _ _ => ?_
  subst hr; subst hO
  refine ⟨_, .refl _, free_agg (TRequest.freeO b2) _, fun o ho => TRequest.freeI b2 o ho _, ?_⟩
  simp [putA]
  refine call_new (toResponseO (by omega) _) (Views.refl _ _) fun r3 O3 c3 hc3 ⟨b3, hr, hO, q3⟩ _ _ => ?_
  subst hr; subst hO
  refine ⟨_, .refl _, free_agg (TResponse.freeO b3) _, fun o ho => TResponse.freeI b3 o ho _, ?_⟩
  simp [putA]
  refine fin_sub (Hk := b1.wood 3 TFile.enc noInn ++ (b2.inn ++ (b3.inn))) ?_ (.refl _) ⟨⟨x.Id, x.Session, b1, b2, x.Before, b3, x.After⟩, rfl, by simp [TAnswer.inn, TRequest.inn, TResponse.inn], by simp [TAnswer.con, SL.con, SL.pcon, q1, q2, q3]⟩
  exact ((List.Sublist.refl _).cons _).cons _ |>.cons _
theorem toAnswerSO {s : SL TAnswer} (h : szAnswerS s ≤ 1048576) (c : Nat) : Con Try.prog 58 [s.av 11 TAnswer.enc] [] c fun r H' _ => ∃ b : SL TAnswer, r = b.ref 11 ∧ H' = b.wood 11 TAnswer.encO TAnswer.inn ∧ b.list.map TAnswer.con = s.list.map TAnswer.con := by
  unfold szAnswerS at h
  exact toSO_fn (g := 89) (z := [.int .i64 0, .str [], .nsl, .str [], .nsl, .nsl, .str [], .int .i64 0, .nsl, .str [], .str []]) (bytes := 192) c58 rfl (fun _ => rfl) (fun _ => rfl) TAnswer.freeO TAnswer.freeI (by omega) (by omega)
    (fun x hx c => toAnswerO (by have := szL_mem (sz := TAnswer.sz) hx; omega) c) c
def mkAnswer (k : Int) (x : TAnswer) : TAnswer := ⟨k, mtext (k + 1), x.Files.marks mkFile cFile (k + 1 + 1), ⟨mtext (k + 1 + 1 + szL cFile x.Files.list), x.Request.Query.marks mkPair cPair (k + 1 + 1 + szL cFile x.Files.list + 1), x.Request.Cookies.marks mkPair cPair (k + 1 + 1 + szL cFile x.Files.list + 1 + szL cPair x.Request.Query.list)⟩, mtext (k + 1 + 1 + szL cFile x.Files.list + 1 + szL cPair x.Request.Query.list + szL cPair x.Request.Cookies.list), ⟨k + 1 + 1 + szL cFile x.Files.list + 1 + szL cPair x.Request.Query.list + szL cPair x.Request.Cookies.list + 1, x.Response.Headers.marks mkHeader cHeader (k + 1 + 1 + szL cFile x.Files.list + 1 + szL cPair x.Request.Query.list + szL cPair x.Request.Cookies.list + 1 + 1), mtext (k + 1 + 1 + szL cFile x.Files.list + 1 + szL cPair x.Request.Query.list + szL cPair x.Request.Cookies.list + 1 + 1 + szL cHeader x.Response.Headers.list)⟩, mtext (k + 1 + 1 + szL cFile x.Files.list + 1 + szL cPair x.Request.Query.list + szL cPair x.Request.Cookies.list + 1 + 1 + szL cHeader x.Response.Headers.list + 1)⟩
def cAnswer (x : TAnswer) : Nat := 7 + szL cFile x.Files.list + szL cPair x.Request.Query.list + szL cPair x.Request.Cookies.list + szL cHeader x.Response.Headers.list
theorem markAnswer_nil (k : Int) : Fnc Try.prog 71 [.nsl, .int .i64 k] (.int .i64 k) := by
  refine fn_of c71 (by simp [F71]) fun c => ?_
  unfold F71
  simp
  refine loop_drop 0 (fun i e H c' => e 0 = .nsl ∧ e 1 = .int .i64 k ∧ e 5 = .int .i64 0 ∧ H = []) ⟨rfl, rfl, rfl, rfl⟩ ?_
  intro i e H c hi ⟨e0, e1, e5, hH⟩ N hN
  subst hH
  simp [e0, e1, e5]
  exact fin_plain ⟨rfl, rfl⟩
theorem szL_cAnswer (l : List TAnswer) : l.length ≤ szL cAnswer l := by
  induction l with
  | nil => simp
  | cons x l ih => simp [szL, cAnswer] at ih ⊢; omega
theorem mkAnswer_encO (k : Int) (x : TAnswer) : (mkAnswer k x).encO = [.int .i64 (k), .str (mtext (k + 1)), x.Files.ref 3, .str (mtext (k + 1 + 1 + szL cFile x.Files.list)), x.Request.Query.ref 2, x.Request.Cookies.ref 2, .str (mtext (k + 1 + 1 + szL cFile x.Files.list + 1 + szL cPair x.Request.Query.list + szL cPair x.Request.Cookies.list)), .int .i64 (k + 1 + 1 + szL cFile x.Files.list + 1 + szL cPair x.Request.Query.list + szL cPair x.Request.Cookies.list + 1), x.Response.Headers.ref 2, .str (mtext (k + 1 + 1 + szL cFile x.Files.list + 1 + szL cPair x.Request.Query.list + szL cPair x.Request.Cookies.list + 1 + 1 + szL cHeader x.Response.Headers.list)), .str (mtext (k + 1 + 1 + szL cFile x.Files.list + 1 + szL cPair x.Request.Query.list + szL cPair x.Request.Cookies.list + 1 + 1 + szL cHeader x.Response.Headers.list + 1))] := by
  simp [mkAnswer, TAnswer.encO, SL.marks_ref]
theorem mkAnswer_tags (k : Int) (x : TAnswer) : tags (mkAnswer k x).inn = tags x.inn := by
  have eT : ∀ X Y : List AObj, tags (X ++ Y) = tags X ++ tags Y := fun X Y => by simp [tags]
  simp only [TAnswer.inn, mkAnswer, eT, flat_marks (enc := TFile.enc) (w := 3) mkFile cFile, flat_marks (enc := TPair.enc) (w := 2) mkPair cPair, flat_marks (enc := THeader.enc) (w := 2) mkHeader cHeader]
theorem markAnswer_con1 {l : List TAnswer} (hz : szL cAnswer l ≤ 16777216) {k : Int} (hk : 0 ≤ k ∧ k ≤ 549755813888) (t c : Nat) :
    Con Try.prog 71 [.ref 0 t 11 l.length, .int .i64 k] (wood t 11 TAnswer.encO TAnswer.inn l) c fun r H' _ => r = .int .i64 (k + szL cAnswer l) ∧ H' = wood t 11 TAnswer.encO TAnswer.inn (mks mkAnswer cAnswer k l) := by
  have hln := szL_cAnswer l
  refine con_of c71 (by simp [F71]) ?_
  unfold F71
  simp
  refine loop_drop l.length (fun i e H c' => e 0 = .ref 0 t 11 l.length ∧ e 1 = .int .i64 (k + szL cAnswer (l.take i)) ∧ e 5 = .int .i64 i ∧ H = ⟨false, t, 11, (mixed mkAnswer cAnswer k l i).map TAnswer.encO⟩ :: (mixed mkAnswer cAnswer k l i).flatMap TAnswer.inn) ⟨rfl, by simp [szL], rfl, by rw [mixed_zero]; rfl⟩ ?_
  intro i e H c hi ⟨e0, e1, e5, hH⟩ N hN
  subst hH
  have hs := mixed_set mkAnswer cAnswer k l (i := i)
  have hst := fun h : i < l.length => szL_step cAnswer l h
  have hle := szL_le cAnswer l i
  have hle1 := szL_le cAnswer l (i + 1)
  have hfl := fun h : i < l.length => mixed_flat (mk := mkAnswer) (cnt := cAnswer) (k := k) (inn := TAnswer.inn) h
  have hfl' := fun h : i < l.length => mixed_flat' (mk := mkAnswer) (cnt := cAnswer) (k := k) (inn := TAnswer.inn) h
  generalize hjj : k + (szL cAnswer (l.take i) : Int) = j at e1 hs hfl'
  simp [e0, e1, e5]
  refine ⟨fun h => ?_, fun h => ?_⟩
  · have hs := hs h
    have hst := hst h
    have hg := mixed_get mkAnswer cAnswer k l h
    have hx := szL_mem (sz := cAnswer) (List.getElem_mem h)
    rw [hfl h]
    have hfl' := hfl' h
    generalize l[i] = x at hs hst hg hx hfl'
    generalize (mks mkAnswer cAnswer k (l.take i)).flatMap TAnswer.inn = PRE at hfl' ⊢
    generalize (l.drop (i + 1)).flatMap TAnswer.inn = POST at hfl' ⊢
    simp only [cAnswer] at hx hst
    have w0 : IntKind.i64.wrap (j + 1) = j + 1 := wrap64 (by omega) (by omega)
    have w1 : IntKind.i64.wrap (j + 1 + 1) = j + 1 + 1 := wrap64 (by omega) (by omega)
    have w3 : IntKind.i64.wrap (j + 1 + 1 + szL cFile x.Files.list + 1) = j + 1 + 1 + szL cFile x.Files.list + 1 := wrap64 (by omega) (by omega)
    have w6 : IntKind.i64.wrap (j + 1 + 1 + szL cFile x.Files.list + 1 + szL cPair x.Request.Query.list + szL cPair x.Request.Cookies.list + 1) = j + 1 + 1 + szL cFile x.Files.list + 1 + szL cPair x.Request.Query.list + szL cPair x.Request.Cookies.list + 1 := wrap64 (by omega) (by omega)
    have w7 : IntKind.i64.wrap (j + 1 + 1 + szL cFile x.Files.list + 1 + szL cPair x.Request.Query.list + szL cPair x.Request.Cookies.list + 1 + 1) = j + 1 + 1 + szL cFile x.Files.list + 1 + szL cPair x.Request.Query.list + szL cPair x.Request.Cookies.list + 1 + 1 := wrap64 (by omega) (by omega)
    have w9 : IntKind.i64.wrap (j + 1 + 1 + szL cFile x.Files.list + 1 + szL cPair x.Request.Query.list + szL cPair x.Request.Cookies.list + 1 + 1 + szL cHeader x.Response.Headers.list + 1) = j + 1 + 1 + szL cFile x.Files.list + 1 + szL cPair x.Request.Query.list + szL cPair x.Request.Cookies.list + 1 + 1 + szL cHeader x.Response.Headers.list + 1 := wrap64 (by omega) (by omega)
    have w10 : IntKind.i64.wrap (j + 1 + 1 + szL cFile x.Files.list + 1 + szL cPair x.Request.Query.list + szL cPair x.Request.Cookies.list + 1 + 1 + szL cHeader x.Response.Headers.list + 1 + 1) = j + 1 + 1 + szL cFile x.Files.list + 1 + szL cPair x.Request.Query.list + szL cPair x.Request.Cookies.list + 1 + 1 + szL cHeader x.Response.Headers.list + 1 + 1 := wrap64 (by omega) (by omega)
    refine ⟨h, x, hg, ?_⟩
    simp [e0, e1, e5, h, mixed_len, w0, w1, w3, w6, w7, w9, w10, putA, TAnswer.encO, TAnswer.inn]
    refine call_fn0 (mtext_fn (by omega)) .str fun _ _ => ?_
    simp [e0, e1, e5, h, mixed_len, w0, w1, w3, w6, w7, w9, w10, putA, TAnswer.encO, TAnswer.inn]
    refine call_midr (f := 67) (B := x.Files.wood 3 TFile.enc noInn) (markFile_con (s := x.Files) (by omega) (k := j + 1 + 1) ⟨by omega, by omega⟩ _) (Views.refl _ _) fun r B' c' hc ⟨q1, q2⟩ => ?_
    subst q1; subst q2
    refine ⟨flat_marks (enc := TFile.enc) (w := 3) mkFile cFile _ x.Files, .int, fun o ho => flat_free TFile.flat _ _ o ho _, ?_⟩
    simp [e0, e1, e5, h, mixed_len, w0, w1, w3, w6, w7, w9, w10, putA, TAnswer.encO, TAnswer.inn]
    refine call_fn0 (mtext_fn (by omega)) .str fun _ _ => ?_
    simp [e0, e1, e5, h, mixed_len, w0, w1, w3, w6, w7, w9, w10, putA, TAnswer.encO, TAnswer.inn]
    refine call_mid2 (f := 96) (B := x.Request.Query.wood 2 TPair.enc noInn) (markPair_con (s := x.Request.Query) (by omega) (k := j + 1 + 1 + szL cFile x.Files.list + 1) ⟨by omega, by omega⟩ _) (Views.refl _ _) fun r B' c' hc ⟨q1, q2⟩ => ?_
    subst q1; subst q2
    refine ⟨flat_marks (enc := TPair.enc) (w := 2) mkPair cPair _ x.Request.Query, .int, fun o ho => flat_free TPair.flat _ _ o ho _, ?_⟩
    simp [e0, e1, e5, h, mixed_len, w0, w1, w3, w6, w7, w9, w10, putA, TAnswer.encO, TAnswer.inn]
    refine call_mid3 (f := 96) (B := x.Request.Cookies.wood 2 TPair.enc noInn) (markPair_con (s := x.Request.Cookies) (by omega) (k := j + 1 + 1 + szL cFile x.Files.list + 1 + szL cPair x.Request.Query.list) ⟨by omega, by omega⟩ _) (Views.refl _ _) fun r B' c' hc ⟨q1, q2⟩ => ?_
    subst q1; subst q2
    refine ⟨flat_marks (enc := TPair.enc) (w := 2) mkPair cPair _ x.Request.Cookies, .int, fun o ho => flat_free TPair.flat _ _ o ho _, ?_⟩
    simp [e0, e1, e5, h, mixed_len, w0, w1, w3, w6, w7, w9, w10, putA, TAnswer.encO, TAnswer.inn]
    refine call_fn0 (mtext_fn (by omega)) .str fun _ _ => ?_
    simp [e0, e1, e5, h, mixed_len, w0, w1, w3, w6, w7, w9, w10, putA, TAnswer.encO, TAnswer.inn]
    refine call_mid4 (f := 97) (B := x.Response.Headers.wood 2 THeader.enc noInn) (markHeader_con (s := x.Response.Headers) (by omega) (k := j + 1 + 1 + szL cFile x.Files.list + 1 + szL cPair x.Request.Query.list + szL cPair x.Request.Cookies.list + 1 + 1) ⟨by omega, by omega⟩ _) (Views.refl _ _) fun r B' c' hc ⟨q1, q2⟩ => ?_
    subst q1; subst q2
    refine ⟨flat_marks (enc := THeader.enc) (w := 2) mkHeader cHeader _ x.Response.Headers, .int, fun o ho => flat_free THeader.flat _ _ o ho _, ?_⟩
    simp [e0, e1, e5, h, mixed_len, w0, w1, w3, w6, w7, w9, w10, putA, TAnswer.encO, TAnswer.inn]
    refine call_fn0 (mtext_fn (by omega)) .str fun _ _ => ?_
    simp [e0, e1, e5, h, mixed_len, w0, w1, w3, w6, w7, w9, w10, putA, TAnswer.encO, TAnswer.inn]
    refine call_fn0 (mtext_fn (by omega)) .str fun _ _ => ?_
    simp [e0, e1, e5, h, mixed_len, w0, w1, w3, w6, w7, w9, w10, putA, TAnswer.encO, TAnswer.inn]
    refine hN _ _ _ _ h (List.Sublist.refl _) ⟨by simp [upd, e0], ?_, by simp [upd]; exact step64 (by unfold mx; omega) h, ?_⟩
    · simp [upd, w0, w1, w3, w6, w7, w9, w10, hst]; omega
    · rw [hfl', ← hs, List.map_set, mkAnswer_encO]
      simp [mkAnswer, TAnswer.inn]
  · have h1 : i = l.length := by omega
    subst h1
    refine fin_all ⟨?_, ?_⟩
    · rw [← hjj]; simp
    · rw [mixed_all]; rfl
theorem markAnswer_con {s : SL TAnswer} (hz : szL cAnswer s.list ≤ 16777216) {k : Int} (hk : 0 ≤ k ∧ k ≤ 549755813888) (c : Nat) :
    Con Try.prog 71 [s.ref 11, .int .i64 k] (s.wood 11 TAnswer.encO TAnswer.inn) c fun r H' _ => r = .int .i64 (k + szL cAnswer s.list) ∧ H' = (s.marks mkAnswer cAnswer k).wood 11 TAnswer.encO TAnswer.inn := by
  cases s with
  | nil =>
    have := markAnswer_nil k c
    simpa [SL.ref, SL.wood, SL.marks, szL] using this
  | mk t l =>
    have := markAnswer_con1 (l := l) hz hk t c
    exact this
end A
end Go.Proofs.Ytfcimcoanlgldaa

/-
  Servers kept as0 objects: printed by a program (wip/tools/genobj.py). No condition.
-/

namespace Go.Proofs.Ytfcimcoanlgldaa
namespace A
set_option linter.unusedVariables false
set_option linter.unusedSimpArgs false
set_option maxRecDepth 100000

theorem view_OLine {S : List AObj} {s : SL TLine} (hs : ∀ o, o ∈ s.wood 4 TLine.encO TLine.inn → o ∈ S) : View S (s.ref 4) (s.av 4 TLine.enc) := view_line hs
def TServer.encO (s : TServer) : List AV := [s.Files.ref 3, s.Lines.ref 4, s.Sessions.ref 4, s.Queue.ref 5, s.Workers.ref 9, s.Done.ref 11, .int .i64 s.Next, .int .i64 s.Now]
def TServer.inn (s : TServer) : List AObj := s.Files.wood 3 TFile.enc noInn ++ (s.Lines.wood 4 TLine.encO TLine.inn ++ (s.Sessions.wood 4 TSession.enc noInn ++ (s.Queue.wood 5 TJob.encO TJob.inn ++ (s.Workers.wood 9 TWorker.encO TWorker.inn ++ (s.Done.wood 11 TAnswer.encO TAnswer.inn)))))
@[simp] theorem TServer.lenO (s : TServer) : s.encO.length = 8 := (rfl)
@[simp] theorem TServer.allO (s : TServer) : s.encO.take 8 = s.encO := (rfl)
@[simp] theorem TServer.o0 (s : TServer) (K : AV → Prop) : getW s.encO 0 K = K (s.Files.ref 3) := by simp [TServer.encO]
@[simp] theorem TServer.o1 (s : TServer) (K : AV → Prop) : getW s.encO 1 K = K (s.Lines.ref 4) := by simp [TServer.encO]
@[simp] theorem TServer.o2 (s : TServer) (K : AV → Prop) : getW s.encO 2 K = K (s.Sessions.ref 4) := by simp [TServer.encO]
@[simp] theorem TServer.o3 (s : TServer) (K : AV → Prop) : getW s.encO 3 K = K (s.Queue.ref 5) := by simp [TServer.encO]
@[simp] theorem TServer.o4 (s : TServer) (K : AV → Prop) : getW s.encO 4 K = K (s.Workers.ref 9) := by simp [TServer.encO]
@[simp] theorem TServer.o5 (s : TServer) (K : AV → Prop) : getW s.encO 5 K = K (s.Done.ref 11) := by simp [TServer.encO]
@[simp] theorem TServer.o6 (s : TServer) (K : AV → Prop) : getW s.encO 6 K = K (.int .i64 s.Next) := by simp [TServer.encO]
@[simp] theorem TServer.o7 (s : TServer) (K : AV → Prop) : getW s.encO 7 K = K (.int .i64 s.Now) := by simp [TServer.encO]
theorem TServer.freeO : ∀ (x : TServer) a, a ∈ x.encO → Free a := fun x a ha => by
  simp [TServer.encO] at ha
  rcases ha with rfl | rfl | rfl | rfl | rfl | rfl | rfl | rfl
  · exact free_ref _ _
  · exact free_ref _ _
  · exact free_ref _ _
  · exact free_ref _ _
  · exact free_ref _ _
  · exact free_ref _ _
  · exact free_int _ _
  · exact free_int _ _
theorem TServer.freeI : ∀ (x : TServer) o, o ∈ x.inn → ∀ T, AvRows T o := fun x o ho => by
  simp only [TServer.inn, List.mem_append] at ho
  rcases ho with ho | ho | ho | ho | ho | ho
  · exact flat_free TFile.flat _ _ o ho
  · exact free_wood TLine.freeO TLine.freeI _ o ho
  · exact flat_free TSession.flat _ _ o ho
  · exact free_wood TJob.freeO TJob.freeI _ o ho
  · exact free_wood TWorker.freeO TWorker.freeI _ o ho
  · exact free_wood TAnswer.freeO TAnswer.freeI _ o ho
theorem TServer.viewO {S : List AObj} (x : TServer) (h : ∀ o, o ∈ x.inn → o ∈ S) : ∀ (j : Nat) (a a' : AV), x.encO[j]? = some a → x.enc[j]? = some a' → View S a a' := fun j a a' h1 h2 => by
  match j, h1, h2 with
  | 0, h1, h2 => simp [TServer.encO] at h1; simp [TServer.enc] at h2; subst h1; subst h2; exact view_flat (fun o ho => h o (by simp [TServer.inn, ho])) TFile.flat.cells
  | 1, h1, h2 => simp [TServer.encO] at h1; simp [TServer.enc] at h2; subst h1; subst h2; exact view_OLine (fun o ho => h o (by simp [TServer.inn, ho]))
  | 2, h1, h2 => simp [TServer.encO] at h1; simp [TServer.enc] at h2; subst h1; subst h2; exact view_flat (fun o ho => h o (by simp [TServer.inn, ho])) TSession.flat.cells
  | 3, h1, h2 => simp [TServer.encO] at h1; simp [TServer.enc] at h2; subst h1; subst h2; exact view_OJob (fun o ho => h o (by simp [TServer.inn, ho]))
  | 4, h1, h2 => simp [TServer.encO] at h1; simp [TServer.enc] at h2; subst h1; subst h2; exact view_OWorker (fun o ho => h o (by simp [TServer.inn, ho]))
  | 5, h1, h2 => simp [TServer.encO] at h1; simp [TServer.enc] at h2; subst h1; subst h2; exact view_OAnswer (fun o ho => h o (by simp [TServer.inn, ho]))
  | 6, h1, h2 => simp [TServer.encO] at h1; simp [TServer.enc] at h2; subst h1; subst h2; exact .refl _
  | 7, h1, h2 => simp [TServer.encO] at h1; simp [TServer.enc] at h2; subst h1; subst h2; exact .refl _
  | j + 8, h1, h2 => simp [TServer.encO] at h1
theorem view_OServer {S : List AObj} {s : SL TServer} (hs : ∀ o, o ∈ s.wood 8 TServer.encO TServer.inn → o ∈ S) : View S (s.ref 8) (s.av 8 TServer.enc) :=
  view_wood hs (fun x => TServer.cells x) (fun _ => rfl) fun x h => TServer.viewO x h
theorem view_AServer {S : List AObj} {s : TServer} (hs : ∀ o, o ∈ s.inn → o ∈ S) : View S (.agg s.encO) (.agg s.enc) :=
  .agg rfl (fun j a ha => TServer.cells s a (List.mem_of_getElem? ha)) (TServer.viewO s hs)
theorem toServerO {x : TServer} (h : x.sz ≤ 1048576) (c : Nat) : Con Try.prog 23 [.agg x.enc] [] c fun r O _ => ∃ b : TServer, r = .agg b.encO ∧ O = b.inn ∧ b.con = x.con := by
  simp only [TServer.sz] at h
  refine con_of c23 (by simp [F23]) ?_
  unfold F23
  simp [putA]
  refine call_new (toFileSO (by omega) _) (Views.refl _ _) fun r1 O1 c1 hc1 ⟨b1, hr, hO, q1⟩ _ _ => ?_
  subst hr; subst hO
  refine ⟨_, .refl _, free_ref _ _ _, fun o ho => flat_free TFile.flat _ _ o ho _, ?_⟩
  simp [putA]
  refine call_new (toLineSO (by omega) _) (Views.refl _ _) fun r2 O2 c2 hc2 ⟨b2, hr, hO, q2⟩ _ _ => ?_
  subst hr; subst hO
  refine ⟨_, .refl _, free_ref _ _ _, fun o ho => free_wood TLine.freeO TLine.freeI _ o ho _, ?_⟩
  simp [putA]
  refine call_new (toSessionSO (by omega) _) (Views.refl _ _) fun r3 O3 c3 hc3 ⟨b3, hr, hO, q3⟩ _ _ => ?_
  subst hr; subst hO
  refine ⟨_, .refl _, free_ref _ _ _, fun o ho => flat_free TSession.flat _ _ o ho _, ?_⟩
  simp [putA]
  refine call_new (toJobSO (by omega) _) (Views.refl _ _) fun r4 O4 c4 hc4 ⟨b4, hr, hO, q4⟩ _ _ => ?_
  subst hr; subst hO
  refine ⟨_, .refl _, free_ref _ _ _, fun o ho => free_wood TJob.freeO TJob.freeI _ o ho _, ?_⟩
  simp [putA]
  refine call_new (toWorkerSO (by omega) _) (Views.refl _ _) fun r5 O5 c5 hc5 ⟨b5, hr, hO, q5⟩ _ _ => ?_
  subst hr; subst hO
  refine ⟨_, .refl _, free_ref _ _ _, fun o ho => free_wood TWorker.freeO TWorker.freeI _ o ho _, ?_⟩
  simp [putA]
  refine call_new (toAnswerSO (by omega) _) (Views.refl _ _) fun r6 O6 c6 hc6 ⟨b6, hr, hO, q6⟩ _ _ => ?_
  subst hr; subst hO
  refine ⟨_, .refl _, free_ref _ _ _, fun o ho => free_wood TAnswer.freeO TAnswer.freeI _ o ho _, ?_⟩
  simp [putA]
  refine fin_sub (Hk := b1.wood 3 TFile.enc noInn ++ (b2.wood 4 TLine.encO TLine.inn ++ (b3.wood 4 TSession.enc noInn ++ (b4.wood 5 TJob.encO TJob.inn ++ (b5.wood 9 TWorker.encO TWorker.inn ++ (b6.wood 11 TAnswer.encO TAnswer.inn)))))) ?_ (.refl _) ⟨⟨b1, b2, b3, b4, b5, b6, x.Next, x.Now⟩, rfl, by simp [TServer.inn], by simp [TServer.con, SL.con, SL.pcon, q1, q2, q3, q4, q5, q6]⟩
  exact ((List.Sublist.refl _).cons _).cons _ |>.cons _

theorem mark_inA {α : Type} {P : Program} {f w : Nat} {encO : α → List AV} {inn : α → List AObj} {mk : Int → α → α} {cnt : α → Nat} {K : AV → List AObj → Nat → Prop} {A C : List AObj} {s : SL α} {k n : Int} {c : Nat}
    (hf : Con P f [s.ref w, .int .i64 k] (s.wood w encO inn) c fun r H' _ => r = .int .i64 n ∧ H' = (s.marks mk cnt k).wood w encO inn)
    (hi : ∀ k x, tags (inn (mk k x)) = tags (inn x)) (hO : ∀ x a, a ∈ encO x → Free a) (hI : ∀ x o, o ∈ inn x → ∀ T, AvRows T o) {H X : List AObj} {B : AObj} (hH : H = A ++ (s.wood w encO inn ++ C)) (hX : A ++ ((s.marks mk cnt k).wood w encO inn ++ C) = X ++ [B]) (kk : ∀ c', c ≤ c' → K (.int .i64 n) (X ++ [B]) c') :
    CallW P f [s.ref w, .int .i64 k] H c K := by
  rw [hH, ← List.append_assoc]
  exact mark_mid hf hi hO hI fun c' h => by rw [List.append_assoc, hX]; exact kk c' h
theorem marks_wood_len {α : Type} {w : Nat} {encO : α → List AV} {inn : α → List AObj} {mk : Int → α → α} {cnt : α → Nat} (hi : ∀ k x, tags (inn (mk k x)) = tags (inn x)) (k : Int) (s : SL α) : ((s.marks mk cnt k).wood w encO inn).length = (s.wood w encO inn).length := by
  have := congrArg List.length (tags_wood (w := w) (encO := encO) (cnt := cnt) hi k s)
  simpa [tags] using this
theorem getW_endN {α : Type} {X : List α} {B : α} {n : Nat} (h : X.length = n) (K : α → Prop) : getW (X ++ [B]) n K = K B := getW_of (by rw [List.getElem?_append_right (by omega)]; simp [h]) K
def mkServer (k : Int) (s : TServer) : TServer := { s with
  Files := s.Files.marks mkFile cFile k
  Lines := s.Lines.marks mkLine cLine (k + szL cFile s.Files.list)
  Sessions := s.Sessions.marks mkSession cSession (k + szL cFile s.Files.list + szL cLine s.Lines.list)
  Queue := s.Queue.marks mkJob cJob (k + szL cFile s.Files.list + szL cLine s.Lines.list + szL cSession s.Sessions.list)
  Workers := s.Workers.marks mkWorker cWorker (k + szL cFile s.Files.list + szL cLine s.Lines.list + szL cSession s.Sessions.list + szL cJob s.Queue.list)
  Done := s.Done.marks mkAnswer cAnswer (k + szL cFile s.Files.list + szL cLine s.Lines.list + szL cSession s.Sessions.list + szL cJob s.Queue.list + szL cWorker s.Workers.list) }
def cServer (s : TServer) : Nat := szL cFile s.Files.list + szL cLine s.Lines.list + szL cSession s.Sessions.list + szL cJob s.Queue.list + szL cWorker s.Workers.list + szL cAnswer s.Done.list

theorem markServer_con {s : TServer} (hz : szL cFile s.Files.list ≤ 8388608 ∧ szL cLine s.Lines.list ≤ 8388608 ∧ szL cSession s.Sessions.list ≤ 8388608 ∧ szL cJob s.Queue.list ≤ 8388608 ∧ szL cWorker s.Workers.list ≤ 8388608 ∧ szL cAnswer s.Done.list ≤ 8388608) (hw : ∀ x, x ∈ s.Lines.list → x.Words.list.length ≤ 1048576) {k : Int} (hk : 0 ≤ k ∧ k ≤ 1048576) (c : Nat) :
    Con Try.prog 28 [.agg s.encO, .int .i64 k] s.inn c fun r O _ => r = .int .i64 (k + cServer s) ∧ O = (mkServer k s).inn := by
  obtain ⟨z1, z2, z3, z4, z5, z6⟩ := hz
  refine con_of c28 (by simp [F28]) ?_
  unfold F28
  simp
  generalize hn : s.inn.length = n
  unfold TServer.inn at hn ⊢
  have hn0 := hn
  simp only [List.length_append] at hn
  have l0 := marks_wood_len (w := 3) (encO := TFile.enc) (inn := noInn) (mk := mkFile) (cnt := cFile) (fun _ _ => rfl) (k) s.Files
  have l1 := marks_wood_len (w := 4) (encO := TLine.encO) (inn := TLine.inn) (mk := mkLine) (cnt := cLine) mkLine_tags (k + szL cFile s.Files.list) s.Lines
  have l2 := marks_wood_len (w := 4) (encO := TSession.enc) (inn := noInn) (mk := mkSession) (cnt := cSession) (fun _ _ => rfl) (k + szL cFile s.Files.list + szL cLine s.Lines.list) s.Sessions
  have l3 := marks_wood_len (w := 5) (encO := TJob.encO) (inn := TJob.inn) (mk := mkJob) (cnt := cJob) mkJob_tags (k + szL cFile s.Files.list + szL cLine s.Lines.list + szL cSession s.Sessions.list) s.Queue
  have l4 := marks_wood_len (w := 9) (encO := TWorker.encO) (inn := TWorker.inn) (mk := mkWorker) (cnt := cWorker) mkWorker_tags (k + szL cFile s.Files.list + szL cLine s.Lines.list + szL cSession s.Sessions.list + szL cJob s.Queue.list) s.Workers
  have l5 := marks_wood_len (w := 11) (encO := TAnswer.encO) (inn := TAnswer.inn) (mk := mkAnswer) (cnt := cAnswer) mkAnswer_tags (k + szL cFile s.Files.list + szL cLine s.Lines.list + szL cSession s.Sessions.list + szL cJob s.Queue.list + szL cWorker s.Workers.list) s.Done
  obtain ⟨X0, hX0⟩ : ∃ X : List AObj, X = ((s.Files.marks mkFile cFile (k)).wood 3 TFile.enc noInn) ++ ((s.Lines.wood 4 TLine.encO TLine.inn) ++ ((s.Sessions.wood 4 TSession.enc noInn) ++ ((s.Queue.wood 5 TJob.encO TJob.inn) ++ ((s.Workers.wood 9 TWorker.encO TWorker.inn) ++ ((s.Done.wood 11 TAnswer.encO TAnswer.inn)))))) := ⟨_, rfl⟩
  have hl0 : X0.length = n := by rw [hX0]; simp only [List.length_append]; omega
  refine mark_inA (A := []) (C := (s.Lines.wood 4 TLine.encO TLine.inn) ++ ((s.Sessions.wood 4 TSession.enc noInn) ++ ((s.Queue.wood 5 TJob.encO TJob.inn) ++ ((s.Workers.wood 9 TWorker.encO TWorker.inn) ++ ((s.Done.wood 11 TAnswer.encO TAnswer.inn) ++ ([(⟨false, c, 8, [s.encO]⟩ : AObj)])))))) (markFile_con (s := s.Files) (by omega) (k := k) ⟨by omega, by omega⟩ _) (fun _ _ => rfl) (fun x a ha => (TFile.flat x a ha).2) (fun x o ho => by cases ho) (X := X0) (B := ⟨false, c, 8, [s.encO]⟩) (by simp) (by rw [hX0]; simp) fun c0 _ => ?_
  simp [getW_endN hl0]
  obtain ⟨X1, hX1⟩ : ∃ X : List AObj, X = ((s.Files.marks mkFile cFile (k)).wood 3 TFile.enc noInn) ++ (((s.Lines.marks mkLine cLine (k + szL cFile s.Files.list)).wood 4 TLine.encO TLine.inn) ++ ((s.Sessions.wood 4 TSession.enc noInn) ++ ((s.Queue.wood 5 TJob.encO TJob.inn) ++ ((s.Workers.wood 9 TWorker.encO TWorker.inn) ++ ((s.Done.wood 11 TAnswer.encO TAnswer.inn)))))) := ⟨_, rfl⟩
  have hl1 : X1.length = n := by rw [hX1]; simp only [List.length_append]; omega
  refine mark_inA (A := ((s.Files.marks mkFile cFile (k)).wood 3 TFile.enc noInn)) (C := (s.Sessions.wood 4 TSession.enc noInn) ++ ((s.Queue.wood 5 TJob.encO TJob.inn) ++ ((s.Workers.wood 9 TWorker.encO TWorker.inn) ++ ((s.Done.wood 11 TAnswer.encO TAnswer.inn) ++ ([(⟨false, c, 8, [s.encO]⟩ : AObj)]))))) (markLine_con (s := s.Lines) (by omega) hw (k := k + szL cFile s.Files.list) ⟨by omega, by omega⟩ _) mkLine_tags TLine.freeO TLine.freeI (X := X1) (B := ⟨false, c, 8, [s.encO]⟩) (by rw [hX0]; simp) (by rw [hX1]; simp) fun c1 _ => ?_
  simp [getW_endN hl1]
  obtain ⟨X2, hX2⟩ : ∃ X : List AObj, X = ((s.Files.marks mkFile cFile (k)).wood 3 TFile.enc noInn) ++ (((s.Lines.marks mkLine cLine (k + szL cFile s.Files.list)).wood 4 TLine.encO TLine.inn) ++ (((s.Sessions.marks mkSession cSession (k + szL cFile s.Files.list + szL cLine s.Lines.list)).wood 4 TSession.enc noInn) ++ ((s.Queue.wood 5 TJob.encO TJob.inn) ++ ((s.Workers.wood 9 TWorker.encO TWorker.inn) ++ ((s.Done.wood 11 TAnswer.encO TAnswer.inn)))))) := ⟨_, rfl⟩
  have hl2 : X2.length = n := by rw [hX2]; simp only [List.length_append]; omega
  refine mark_inA (A := ((s.Files.marks mkFile cFile (k)).wood 3 TFile.enc noInn) ++ (((s.Lines.marks mkLine cLine (k + szL cFile s.Files.list)).wood 4 TLine.encO TLine.inn))) (C := (s.Queue.wood 5 TJob.encO TJob.inn) ++ ((s.Workers.wood 9 TWorker.encO TWorker.inn) ++ ((s.Done.wood 11 TAnswer.encO TAnswer.inn) ++ ([(⟨false, c, 8, [s.encO]⟩ : AObj)])))) (markSession_con (s := s.Sessions) (by omega) (k := k + szL cFile s.Files.list + szL cLine s.Lines.list) ⟨by omega, by omega⟩ _) (fun _ _ => rfl) (fun x a ha => (TSession.flat x a ha).2) (fun x o ho => by cases ho) (X := X2) (B := ⟨false, c, 8, [s.encO]⟩) (by rw [hX1]; simp) (by rw [hX2]; simp) fun c2 _ => ?_
  simp [getW_endN hl2]
  obtain ⟨X3, hX3⟩ : ∃ X : List AObj, X = ((s.Files.marks mkFile cFile (k)).wood 3 TFile.enc noInn) ++ (((s.Lines.marks mkLine cLine (k + szL cFile s.Files.list)).wood 4 TLine.encO TLine.inn) ++ (((s.Sessions.marks mkSession cSession (k + szL cFile s.Files.list + szL cLine s.Lines.list)).wood 4 TSession.enc noInn) ++ (((s.Queue.marks mkJob cJob (k + szL cFile s.Files.list + szL cLine s.Lines.list + szL cSession s.Sessions.list)).wood 5 TJob.encO TJob.inn) ++ ((s.Workers.wood 9 TWorker.encO TWorker.inn) ++ ((s.Done.wood 11 TAnswer.encO TAnswer.inn)))))) := ⟨_, rfl⟩
  have hl3 : X3.length = n := by rw [hX3]; simp only [List.length_append]; omega
  refine mark_inA (A := ((s.Files.marks mkFile cFile (k)).wood 3 TFile.enc noInn) ++ (((s.Lines.marks mkLine cLine (k + szL cFile s.Files.list)).wood 4 TLine.encO TLine.inn) ++ (((s.Sessions.marks mkSession cSession (k + szL cFile s.Files.list + szL cLine s.Lines.list)).wood 4 TSession.enc noInn)))) (C := (s.Workers.wood 9 TWorker.encO TWorker.inn) ++ ((s.Done.wood 11 TAnswer.encO TAnswer.inn) ++ ([(⟨false, c, 8, [s.encO]⟩ : AObj)]))) (markJob_con (s := s.Queue) (by omega) (k := k + szL cFile s.Files.list + szL cLine s.Lines.list + szL cSession s.Sessions.list) ⟨by omega, by omega⟩ _) mkJob_tags TJob.freeO TJob.freeI (X := X3) (B := ⟨false, c, 8, [s.encO]⟩) (by rw [hX2]; simp) (by rw [hX3]; simp) fun c3 _ => ?_
  simp [getW_endN hl3]
  obtain ⟨X4, hX4⟩ : ∃ X : List AObj, X = ((s.Files.marks mkFile cFile (k)).wood 3 TFile.enc noInn) ++ (((s.Lines.marks mkLine cLine (k + szL cFile s.Files.list)).wood 4 TLine.encO TLine.inn) ++ (((s.Sessions.marks mkSession cSession (k + szL cFile s.Files.list + szL cLine s.Lines.list)).wood 4 TSession.enc noInn) ++ (((s.Queue.marks mkJob cJob (k + szL cFile s.Files.list + szL cLine s.Lines.list + szL cSession s.Sessions.list)).wood 5 TJob.encO TJob.inn) ++ (((s.Workers.marks mkWorker cWorker (k + szL cFile s.Files.list + szL cLine s.Lines.list + szL cSession s.Sessions.list + szL cJob s.Queue.list)).wood 9 TWorker.encO TWorker.inn) ++ ((s.Done.wood 11 TAnswer.encO TAnswer.inn)))))) := ⟨_, rfl⟩
  have hl4 : X4.length = n := by rw [hX4]; simp only [List.length_append]; omega
  refine mark_inA (A := ((s.Files.marks mkFile cFile (k)).wood 3 TFile.enc noInn) ++ (((s.Lines.marks mkLine cLine (k + szL cFile s.Files.list)).wood 4 TLine.encO TLine.inn) ++ (((s.Sessions.marks mkSession cSession (k + szL cFile s.Files.list + szL cLine s.Lines.list)).wood 4 TSession.enc noInn) ++ (((s.Queue.marks mkJob cJob (k + szL cFile s.Files.list + szL cLine s.Lines.list + szL cSession s.Sessions.list)).wood 5 TJob.encO TJob.inn))))) (C := (s.Done.wood 11 TAnswer.encO TAnswer.inn) ++ ([(⟨false, c, 8, [s.encO]⟩ : AObj)])) (markWorker_con (s := s.Workers) (by omega) (k := k + szL cFile s.Files.list + szL cLine s.Lines.list + szL cSession s.Sessions.list + szL cJob s.Queue.list) ⟨by omega, by omega⟩ _) mkWorker_tags TWorker.freeO TWorker.freeI (X := X4) (B := ⟨false, c, 8, [s.encO]⟩) (by rw [hX3]; simp) (by rw [hX4]; simp) fun c4 _ => ?_
  simp [getW_endN hl4]
  obtain ⟨X5, hX5⟩ : ∃ X : List AObj, X = ((s.Files.marks mkFile cFile (k)).wood 3 TFile.enc noInn) ++ (((s.Lines.marks mkLine cLine (k + szL cFile s.Files.list)).wood 4 TLine.encO TLine.inn) ++ (((s.Sessions.marks mkSession cSession (k + szL cFile s.Files.list + szL cLine s.Lines.list)).wood 4 TSession.enc noInn) ++ (((s.Queue.marks mkJob cJob (k + szL cFile s.Files.list + szL cLine s.Lines.list + szL cSession s.Sessions.list)).wood 5 TJob.encO TJob.inn) ++ (((s.Workers.marks mkWorker cWorker (k + szL cFile s.Files.list + szL cLine s.Lines.list + szL cSession s.Sessions.list + szL cJob s.Queue.list)).wood 9 TWorker.encO TWorker.inn) ++ (((s.Done.marks mkAnswer cAnswer (k + szL cFile s.Files.list + szL cLine s.Lines.list + szL cSession s.Sessions.list + szL cJob s.Queue.list + szL cWorker s.Workers.list)).wood 11 TAnswer.encO TAnswer.inn)))))) := ⟨_, rfl⟩
  have hl5 : X5.length = n := by rw [hX5]; simp only [List.length_append]; omega
  refine mark_inA (A := ((s.Files.marks mkFile cFile (k)).wood 3 TFile.enc noInn) ++ (((s.Lines.marks mkLine cLine (k + szL cFile s.Files.list)).wood 4 TLine.encO TLine.inn) ++ (((s.Sessions.marks mkSession cSession (k + szL cFile s.Files.list + szL cLine s.Lines.list)).wood 4 TSession.enc noInn) ++ (((s.Queue.marks mkJob cJob (k + szL cFile s.Files.list + szL cLine s.Lines.list + szL cSession s.Sessions.list)).wood 5 TJob.encO TJob.inn) ++ (((s.Workers.marks mkWorker cWorker (k + szL cFile s.Files.list + szL cLine s.Lines.list + szL cSession s.Sessions.list + szL cJob s.Queue.list)).wood 9 TWorker.encO TWorker.inn)))))) (C := [(⟨false, c, 8, [s.encO]⟩ : AObj)]) (markAnswer_con (s := s.Done) (by omega) (k := k + szL cFile s.Files.list + szL cLine s.Lines.list + szL cSession s.Sessions.list + szL cJob s.Queue.list + szL cWorker s.Workers.list) ⟨by omega, by omega⟩ _) mkAnswer_tags TAnswer.freeO TAnswer.freeI (X := X5) (B := ⟨false, c, 8, [s.encO]⟩) (by rw [hX4]; simp) (by rw [hX5]; simp) fun c5 _ => ?_
  simp [getW_endN hl5]
  refine fin_sub (Hk := X5) (List.sublist_append_left _ _) (.refl _) ⟨?_, ?_⟩
  · simp [cServer]; omega
  · rw [hX5]; rfl
end A
end Go.Proofs.Ytfcimcoanlgldaa

/-
  LostJobs of the reference and of the program are the same plain function. No condition.
-/


namespace Go.Proofs.Ytfcimcoanlgldaa
namespace A
set_option linter.unusedVariables false
set_option linter.unusedSimpArgs false
set_option maxRecDepth 100000

theorem specMin_fn (a b : Int) : Fnc Try.prog 65 [.int .i64 a, .int .i64 b] (.int .i64 (min a b)) := by
  refine fn_of c65 (by simp [F65]) fun c => ?_
  unfold F65
  by_cases h : b < a
  · simp [h]; exact fin_plain ⟨by rw [Int.min_eq_right (by omega)], rfl⟩
  · simp [h]; exact fin_plain ⟨by rw [Int.min_eq_left (by omega)], rfl⟩
theorem implMin_fn (a b : Int) : Fnc Try.prog 66 [.int .i64 a, .int .i64 b] (.int .i64 (min a b)) := by
  refine fn_of c66 (by simp [F66]) fun c => ?_
  unfold F66
  by_cases h : b < a
  · simp [h]; exact fin_plain ⟨by rw [Int.min_eq_right (by omega)], rfl⟩
  · simp [h]; exact fin_plain ⟨by rw [Int.min_eq_left (by omega)], rfl⟩
def nLost (s : TServer) : Nat := (min s.Next 20).toNat
def lostN (s : TServer) (n : Nat) : List Int := ((List.range n).filter fun i : Nat => decide (jp s i ≠ 1)).map fun i : Nat => (i : Int)
def lost (s : TServer) : List Int := lostN s (nLost s)
theorem lostN_succ (s : TServer) (n : Nat) : lostN s (n + 1) = lostN s n ++ (if jp s n = 1 then [] else [(n : Int)]) := by
  unfold lostN
  rw [List.range_succ, List.filter_append, List.map_append]
  by_cases h : jp s n = 1 <;> simp [h]
theorem lostN_len (s : TServer) (n : Nat) : (lostN s n).length ≤ n := by
  unfold lostN
  rw [List.length_map]
  exact Nat.le_trans (List.length_filter_le ..) (by simp)
theorem lost_con {a b : TServer} (h : a.con = b.con) : lost a = lost b := by
  have e : a.Next = b.Next := by have := congrArg (fun t : TServer => t.Next) h; exact this
  unfold lost lostN nLost
  rw [e]
  congr 2
  funext i
  rw [jp_con h]
theorem spec_lostO {s : TServer} (hs : SmS s) (c : Nat) : Con Try.prog 26 [.agg s.enc] [] c fun r O _ => ∃ x : SL Int, r = x.ref 1 ∧ O = x.wood 1 encI noInn ∧ x.list = lost s := by
  refine con_of c26 (by simp [F26]) ?_
  unfold F26
  simp [putA]
  have hm : (min s.Next 20 : Int) ≤ 20 := Int.min_le_right ..
  have hnl : nLost s ≤ 20 := by unfold nLost; omega
  refine loop_drop (nLost s) (fun i e H c' => e 1 = .ptr 0 c 8 0 0 ∧ e 4 = .int .i64 i ∧ ∃ to : Nat, e 3 = .ref 1 to 1 (lostN s i).length ∧ H = [⟨false, c, 8, [s.enc]⟩, ⟨false, to, 1, (lostN s i).map encI⟩]) ⟨rfl, rfl, _, rfl, rfl⟩ ?_
  intro i e H c' hi ⟨e1, e4, to, e3, hH⟩ N hN
  subst hH
  simp [e1, e3, e4]
  refine call_fn0 (specMin_fn _ _) .int fun _ _ => ?_
  by_cases h : i < nLost s
  rotate_left
  · have hie : i = nLost s := by omega
    have hge : ¬ ((i : Int) < min s.Next 20) := by unfold nLost at hie; omega
    subst hie
    simp [e1, e3, e4, hge]
    refine fin_sub (Hk := (SL.mk to (lost s)).wood 1 encI noInn) ?_ (v' := (SL.mk to (lost s)).ref 1) .name ⟨.mk to (lost s), rfl, rfl, rfl⟩
    rw [flat_wood]
    exact (List.Sublist.refl _).cons _
  have hlt : (i : Int) < min s.Next 20 := by unfold nLost at h; omega
  have hst := lostN_succ s i
  have hln := lostN_len s i
  have hstep : IntKind.i64.wrap ((i : Int) + 1) = ((i + 1 : Nat) : Int) := by rw [step64 (by unfold mx; omega) h]; rfl
  have m1 : ((lostN s i).length + 1) * 8 ≤ 140737488355328 := by omega
  have m2 : (lostN s i).length + 1 ≤ mx := by unfold mx; omega
  generalize lostN s i = l at e3 hst hln m1 m2
  simp [e1, e3, e4, hlt]
  refine call_fn0 (spec_jp hs) .int fun _ _ => ?_
  by_cases hj : jp s i = 1
  · simp [e1, e3, e4, hj, hstep]
    rw [if_pos hj, List.append_nil] at hst
    exact hN _ _ _ _ h (List.Sublist.refl _) ⟨by simp [upd, e1], by simp [upd], to, by simp [upd, e3, hst], by rw [hst]⟩
  · simp [e1, e3, e4, hj, hstep, putA, m1, m2]
    rw [if_neg hj] at hst
    exact hN _ _ _ _ h (sub_two _ _ _) ⟨by simp [upd, e1], by simp [upd], _, by simp [upd, hst]; rfl, by simp [hst, encI]⟩
theorem impl_lostO {s : TServer} (hs : SmS s) (c : Nat) : Con Try.prog 27 [.agg s.enc] [] c fun r O _ => ∃ x : SL Int, r = x.ref 1 ∧ O = x.wood 1 encI noInn ∧ x.list = lost s := by
  refine con_of c27 (by simp [F27]) ?_
  unfold F27
  simp [putA]
  have hm : (min s.Next 20 : Int) ≤ 20 := Int.min_le_right ..
  have hnl : nLost s ≤ 20 := by unfold nLost; omega
  refine loop_drop (nLost s) (fun i e H c' => e 1 = .ptr 0 c 8 0 0 ∧ e 4 = .int .i64 i ∧ ∃ to : Nat, e 3 = .ref 1 to 1 (lostN s i).length ∧ H = [⟨false, c, 8, [s.enc]⟩, ⟨false, to, 1, (lostN s i).map encI⟩]) ⟨rfl, rfl, _, rfl, rfl⟩ ?_
  intro i e H c' hi ⟨e1, e4, to, e3, hH⟩ N hN
  subst hH
  simp [e1, e3, e4]
  refine call_fn0 (implMin_fn _ _) .int fun _ _ => ?_
  by_cases h : i < nLost s
  rotate_left
  · have hie : i = nLost s := by omega
    have hge : ¬ ((i : Int) < min s.Next 20) := by unfold nLost at hie; omega
    subst hie
    simp [e1, e3, e4, hge]
    refine fin_sub (Hk := (SL.mk to (lost s)).wood 1 encI noInn) ?_ (v' := (SL.mk to (lost s)).ref 1) .name ⟨.mk to (lost s), rfl, rfl, rfl⟩
    rw [flat_wood]
    exact (List.Sublist.refl _).cons _
  have hlt : (i : Int) < min s.Next 20 := by unfold nLost at h; omega
  have hst := lostN_succ s i
  have hln := lostN_len s i
  have hstep : IntKind.i64.wrap ((i : Int) + 1) = ((i + 1 : Nat) : Int) := by rw [step64 (by unfold mx; omega) h]; rfl
  have m1 : ((lostN s i).length + 1) * 8 ≤ 140737488355328 := by omega
  have m2 : (lostN s i).length + 1 ≤ mx := by unfold mx; omega
  generalize lostN s i = l at e3 hst hln m1 m2
  simp [e1, e3, e4, hlt]
  refine call_fn0 (impl_jp hs) .int fun _ _ => ?_
  by_cases hj : jp s i = 1
  · simp [e1, e3, e4, hj, hstep]
    rw [if_pos hj, List.append_nil] at hst
    exact hN _ _ _ _ h (List.Sublist.refl _) ⟨by simp [upd, e1], by simp [upd], to, by simp [upd, e3, hst], by rw [hst]⟩
  · simp [e1, e3, e4, hj, hstep, putA, m1, m2]
    rw [if_neg hj] at hst
    exact hN _ _ _ _ h (sub_two _ _ _) ⟨by simp [upd, e1], by simp [upd], _, by simp [upd, hst]; rfl, by simp [hst, encI]⟩
end A
end Go.Proofs.Ytfcimcoanlgldaa

/-
  The law of LostJobs answers true. No condition.
-/

namespace Go.Proofs.Ytfcimcoanlgldaa
namespace A
set_option linter.unusedVariables false
set_option linter.unusedSimpArgs false
set_option maxRecDepth 100000

theorem szL_lin {α : Type} (f g : α → Nat) (m n : Nat) (h : ∀ x, f x ≤ m + n * g x) (l : List α) : szL f l ≤ m * l.length + n * szL g l := by
  induction l with
  | nil => simp [szL]
  | cons x l ih =>
    have := h x
    simp only [szL, List.map_cons, List.sum_cons, List.length_cons, Nat.mul_add] at ih ⊢
    omega
theorem server_bounds {s : TServer} (h : s.sz ≤ 1048576) : (szL cFile s.Files.list ≤ 8388608 ∧ szL cLine s.Lines.list ≤ 8388608 ∧ szL cSession s.Sessions.list ≤ 8388608 ∧ szL cJob s.Queue.list ≤ 8388608 ∧ szL cWorker s.Workers.list ≤ 8388608 ∧ szL cAnswer s.Done.list ≤ 8388608) ∧ ∀ x, x ∈ s.Lines.list → x.Words.list.length ≤ 1048576 := by
  simp only [TServer.sz, szFileS, szLineS, szSessionS, szJobS, szWorkerS, szAnswerS] at h
  have hl := szLine_bounds (l := s.Lines.list) (by omega)
  have hj := szL_lin cJob TJob.sz 3 2 (fun x => by simp only [cJob, TJob.sz, TRequest.sz, szPairS, szL_ePair]; omega) s.Queue.list
  have hw := szL_lin cWorker TWorker.sz 6 3 (fun x => by simp only [cWorker, TWorker.sz, TJob.sz, TRequest.sz, szPairS, szFileS, szL_ePair, szL_eFile]; omega) s.Workers.list
  have ha := szL_lin cAnswer TAnswer.sz 7 3 (fun x => by simp only [cAnswer, TAnswer.sz, TRequest.sz, TResponse.sz, szPairS, szFileS, szHeaderS, szL_ePair, szL_eFile, szL_eHeader]; omega) s.Done.list
  refine ⟨⟨?_, hl.1, ?_, ?_, ?_, ?_⟩, hl.2.1⟩
  · rw [szL_eFile]; omega
  · rw [szL_eSession]; omega
  · omega
  · omega
  · omega
theorem callD_fnV {P : Program} {H : List AObj} {c : Nat} {R : AV → Prop} {f : Nat} {l l' : List AV} {K : AV → Prop} {res : AV} (hf : Fnc P f l' res) (hv : Views H l l') (hR : ∀ v, R v ↔ v = res) (hfr : ∀ c, From c res) (k : K res) : callD P R f l H c K :=
  ⟨l', hv, (fun c => (hf c).mono fun r H' c' _ ⟨h1, h2⟩ => ⟨h2, (hR r).2 h1, h1 ▸ hfr c⟩), ⟨res, (hR res).2 rfl, hfr c⟩, fun r hr _ => by rw [(hR r).1 hr]; exact k⟩
theorem mark_midB {α : Type} {P : Program} {f w : Nat} {encO : α → List AV} {inn : α → List AObj} {mk : Int → α → α} {cnt : α → Nat} {K : AV → List AObj → Nat → Prop} {A C : List AObj} {s : SL α} {k n : Int} {c : Nat}
    (hf : Con P f [s.ref w, .int .i64 k] (s.wood w encO inn) c fun r H' _ => r = .int .i64 n ∧ H' = (s.marks mk cnt k).wood w encO inn)
    (hi : ∀ k x, tags (inn (mk k x)) = tags (inn x)) (hO : ∀ x a, a ∈ encO x → Free a) (hI : ∀ x o, o ∈ inn x → ∀ T, AvRows T o) {H : List AObj} (hH : H = A ++ (s.wood w encO inn ++ C)) (kk : ∀ c', c ≤ c' → K (.int .i64 n) (A ++ ((s.marks mk cnt k).wood w encO inn ++ C)) c') :
    CallW P f [s.ref w, .int .i64 k] H c K := by
  rw [hH, ← List.append_assoc]
  exact mark_mid hf hi hO hI fun c' h => by rw [List.append_assoc]; exact kk c' h
theorem mkServer_tags (k : Int) (s : TServer) : tags (mkServer k s).inn = tags s.inn := by
  have eT : ∀ X Y : List AObj, tags (X ++ Y) = tags X ++ tags Y := fun X Y => by simp [tags]
  unfold TServer.inn
  simp only [eT, mkServer]
  rw [tags_wood (inn := noInn) (mk := mkFile) (cnt := cFile) (fun _ _ => rfl), tags_wood (mk := mkLine) (cnt := cLine) mkLine_tags, tags_wood (inn := noInn) (mk := mkSession) (cnt := cSession) (fun _ _ => rfl), tags_wood (mk := mkJob) (cnt := cJob) mkJob_tags, tags_wood (mk := mkWorker) (cnt := cWorker) mkWorker_tags, tags_wood (mk := mkAnswer) (cnt := cAnswer) mkAnswer_tags]

theorem law_lost {a : TServer} (ha : a.ok) (c : Nat) : Con Try.prog 5 [.agg a.enc] [] c fun r H' _ => r = .bool true ∧ H' = [] := by
  refine con_of c5 (by simp [F5]) ?_
  unfold F5
  simp
  refine call_fn0 (TServer.sz_fn ha ⟨by omega, by omega⟩) .int fun _ _ => ?_
  simp
  refine ⟨fun _ => fin_plain ⟨rfl, rfl⟩, fun h1 => ?_⟩
  obtain ⟨h1', h1''⟩ := szOf_ge h1
  have hz : ∀ x : TServer, x.con = a.con → x.sz ≤ 1048576 := fun x hx => by rw [← x.sz_con, hx, a.sz_con]; omega
  have hll : (lost a).length ≤ 20 := by
    have h1 := lostN_len a (nLost a)
    have h2 : (min a.Next 20 : Int) ≤ 20 := Int.min_le_right ..
    unfold lost nLost at *; omega
  refine call_tree0 (TServer.to_fn (hz a rfl)) fun r1 _ _ ⟨a1, e1, q1⟩ _ => ?_
  subst e1
  simp
  refine call_tree0 (flat_tr encI_flat (spec_lostO (smS_of (hz _ q1)))) fun r2 _ _ ⟨w, e2, q2⟩ _ => ?_
  subst e2
  rw [lost_con q1] at q2
  simp
  refine call_new (toServerO (hz a rfl) _) (Views.refl _ _) fun r3 O c3 hc3 ⟨b, e3, hO, q3⟩ _ _ => ?_
  subst e3; subst hO
  refine ⟨_, .refl _, free_agg (TServer.freeO b) _, fun o ho => TServer.freeI b o ho _, ?_⟩
  simp [putA]
  refine call_new (impl_lostO (smS_of (hz _ q3)) _) (.cons (view_AServer (fun o ho => by simp [ho])) .nil) fun r4 O c4 hc4 ⟨g, e4, hO, q4⟩ _ _ => ?_
  subst e4; subst hO
  refine ⟨_, .refl _, free_ref _ _ _, fun o ho => flat_free encI_flat _ _ o ho _, ?_⟩
  rw [lost_con q3] at q4
  have hg : g.list.length ≤ 1048576 := by rw [q4]; omega
  have hsi : ∀ x : SL Int, x.list = lost a → szIntS x ≤ 1099511627776 := fun x hx => by unfold szIntS; rw [hx]; omega
  simp
  refine call_fn (eqIntS_fn (s := g) (t := w) (hsi _ q4) (by rw [q4, q2])) (.cons (view_flat (fun o ho => by simp [ho]) encI_flat.cells) (.cons (.refl _) .nil)) .bool fun _ _ => ?_
  simp
  refine ⟨fun d v => if d = 29 then IsSrv a v else v = .bool true, ?_⟩
  simp
  refine callD_tree0 (TServer.to_fn (hz a rfl)) (IsSrv_some a _) fun r3 ⟨a3, e3, q3'⟩ _ => ?_
  subst e3
  simp
  refine callD_fnV (TServer.eq_fn (by have := hz _ q3; omega) (q3.trans q3'.symm)) (.cons (view_AServer (fun o ho => by simp [ho])) (.cons (.refl _) .nil)) (fun v => Iff.rfl) (by simp) ?_
  simp
  intro c5 _
  obtain ⟨sb, sw⟩ := server_bounds (hz _ q3)
  refine call_midr (A := []) (B := b.inn) (markServer_con (s := b) sb sw (k := 1) ⟨by omega, by omega⟩ _) (Views.refl _ _) fun r B' c6 _ ⟨p1, p2⟩ => ?_
  subst p1; subst p2
  refine ⟨mkServer_tags _ _, .int, fun o ho => TServer.freeI _ o ho _, ?_⟩
  have hk1 : ¬ ((1 : Int) + (cServer b : Int) < 0) := by omega
  have hk2 : ¬ ((1 : Int) + (g.list.length : Int) < 0) := by omega
  simp [hk1]
  refine call_fn (eqIntS_fn (s := g) (t := w) (hsi _ q4) (by rw [q4, q2])) (.cons (view_flat (fun o ho => by simp [ho]) encI_flat.cells) (.cons (.refl _) .nil)) .bool fun _ _ => ?_
  simp [hk1]
  refine mark_midB (A := ⟨false, c, 8, [a.enc]⟩ :: ((mkServer 1 b).inn ++ [⟨false, c3, 8, [b.encO]⟩])) (C := []) (markI_con c18 hg (k := 1) ⟨by omega, by omega⟩ _) (fun _ _ => rfl) (fun x a ha => (encI_flat x a ha).2) (fun x o ho => by cases ho) (by simp) fun _ _ => ?_
  simp [hk1]
  refine call_fn (heldI_fn c29 (s := g) hg ⟨by omega, by omega⟩) (.cons (view_marks (fun o ho => by simp [ho]) encI_flat.cells) (.cons (.refl _) .nil)) .int fun _ _ => ?_
  simp [hk2]
  refine call_tree0 (TServer.to_fn (hz a rfl)) fun r6 _ _ ⟨a6, e6, q6⟩ _ => ?_
  subst e6
  simp
  refine call_tree0 (flat_tr encI_flat (impl_lostO (smS_of (hz _ q6)))) fun r7 _ _ ⟨y, e7, q7⟩ _ => ?_
  subst e7
  rw [lost_con q6] at q7
  simp
  refine call_fn0 (eqIntS_fn (s := y) (t := w) (hsi _ q7) (by rw [q7, q2])) .bool fun _ _ => ?_
  simp
  refine call_fn (heldI_fn c29 (s := g) hg ⟨by omega, by omega⟩) (.cons (view_marks (fun o ho => by simp [ho]) encI_flat.cells) (.cons (.refl _) .nil)) .int fun _ _ => ?_
  simp [hk2]
  exact fin_plain ⟨rfl, rfl⟩
end A
end Go.Proofs.Ytfcimcoanlgldaa

/-
  Facts of the whole program that every row of the seat asks, each worked out once. No condition.
-/


namespace Go.Proofs.Ytfcimcoanlgldaa.Closed
open Go.ChangeShapes Go.WideShapes Go.RowKit
theorem heard : Try.pinned.checked.prog.stopsHeard = true := by kernel_rfl
theorem enter : Try.pinned.checked.prog.mayEnter = true := by kernel_rfl
theorem make : Try.pinned.checked.prog.make = some Rows.fnExactRunActorsRow.make := by kernel_rfl
theorem lifts : Try.pinned.checked.prog.liftsFinal = Rows.fnExactRunActorsRow.lifted := by kernel_rfl
end Go.Proofs.Ytfcimcoanlgldaa.Closed

/-
  FnExactLostJobs: FnExactLostJobs: the program's LostJobs and the reference's give the same No condition.
-/



namespace Go.Proofs.Ytfcimcoanlgldaa.fnExactLostJobs
open Go.ChangeShapes Go.WideShapes Go.ChangeAt Go.RowKit
open Go.Proofs.Ytfcimcoanlgldaa.A
set_option linter.unusedVariables false

theorem own : ownKnob Try.prog.godebug = none := by kernel_rfl

def types : List TypeId := [47, 41, 122, 9, 3, 22, 64, 24, 42, 125, 43, 131, 129, 127, 173, 44, 134, 45, 140, 138, 136, 175, 4]

set_option maxRecDepth 100000 in
theorem lifted (os : Os) (started : os.Started) (H : Type) (enc : TypeId × Value → H) :
    ReturnsInHanded {} Try.checked os 5 .any (Rows.fnExactLostJobsSpec.pre6 enc Try.prog Try.f5 Rows.fnExactLostJobsRow.domain false) (Rows.fnExactLostJobsSpec.post enc Try.prog Try.f5 false true false false) := by
  refine returnsInHanded_of_change (C := Try.checked) own started (by kernel_rfl) Try.func5
    (ChangeSpec.witness6 (enc := enc) (C := Try.checked) false ⟨#[], #[.agg #[.slice none 0 0, .slice none 0 0, .slice none 0 0, .slice none 0 0, .slice none 0 0, .slice none 0 0, .int .i64 0, .int .i64 0]], []⟩ 8 (by kernel_rfl) (by kernel_rfl) (by kernel_rfl) (by kernel_rfl)) ?_
  intro W base args ds gs before hval0 hW hcnd _
  have hval : ∀ (j : Nat) t v, Try.f5.params[j]? = some t → args[j]? = some v → Value.okWide Try.prog W .any base t v := hval0
  refine law_post (rs := types) (bt := 4) (by kernel_rfl) (by kernel_rfl) (fun t ht => ?_) Try.underlying4 (by kernel_rfl) rfl (fun ds hds => ?_) hW hval fun l has => ?_
  · rw [Try.params5] at ht
    simp at ht
    first
      | (subst ht; exact ⟨by simp [types], by kernel_rfl, of_decide_eq_true (by kernel_rfl)⟩)
      | (rcases ht with rfl | rfl <;> exact ⟨by simp [types], by kernel_rfl, of_decide_eq_true (by kernel_rfl)⟩)
      | (rcases ht with rfl | rfl | rfl <;> exact ⟨by simp [types], by kernel_rfl, of_decide_eq_true (by kernel_rfl)⟩)
      | (rcases ht with rfl | rfl | rfl | rfl <;> exact ⟨by simp [types], by kernel_rfl, of_decide_eq_true (by kernel_rfl)⟩)
      | (rcases ht with rfl | rfl | rfl | rfl | rfl <;> exact ⟨by simp [types], by kernel_rfl, of_decide_eq_true (by kernel_rfl)⟩)
      | (rcases ht with rfl | rfl | rfl | rfl | rfl | rfl <;> exact ⟨by simp [types], by kernel_rfl, of_decide_eq_true (by kernel_rfl)⟩)
  · rw [← Array.length_toList, Try.params5] at hds
    match ds, hds with
    | [d0], _ => exact ⟨rfl, rfl, rfl⟩
  · rw [Try.params5] at has
    cases has with
    | cons h0 has =>
      cases has
      obtain ⟨n0, h0⟩ := h0
      rw [if_pos (by decide)] at h0
      obtain ⟨as0, rfl, h0⟩ := h0
      obtain ⟨s0, rfl, k0⟩ := TServer.sh _ _ h0
      exact A.law_lost k0 _

set_option maxHeartbeats 4000000 in
theorem facts : joinedFacts Try.pinned.checked.prog 5 Try.f5 Rows.fnExactLostJobsSpec Rows.fnExactLostJobsRow = true := by
  unfold joinedFacts
  rw [Closed.heard, Closed.enter, Closed.lifts, Closed.make]
  simp only [Bool.and_eq_true]
  iterate 6 (refine ⟨?_, by as_aux_lemma => kernel_rfl⟩)
  refine ⟨⟨?_, trivial⟩, trivial⟩
  iterate 23 (refine ⟨?_, by as_aux_lemma => kernel_rfl⟩)
  kernel_rfl
theorem named : Try.pinned.checked.prog.funcNamed Rows.fnExactLostJobsRow.func = some 5 := by kernel_rfl
theorem inst : Try.f5.isInstance Try.pinned.checked.prog Rows.fnExactLostJobsRow.origin Rows.fnExactLostJobsRow.targs := of_decide_eq_true (by kernel_rfl)
theorem wrap : Try.f5.isWrapper Try.pinned.checked.prog Rows.fnExactLostJobsRow.wrapper Rows.fnExactLostJobsRow.mainSum := by
  unfold Func.isWrapper
  first
    | (rw [if_pos (by decide +kernel)]; kernel_rfl)
    | (rw [if_neg (by decide +kernel)]; exact ⟨rfl, rfl⟩)

theorem over : Rows.fnExactLostJobsRow.holds Try.pinned (OpenSpec.ofChange Rows.fnExactLostJobsSpec) :=
  OpenClaim.holds_of_wide 5 Try.f5 rfl rfl rfl rfl rfl rfl rfl ⟨rfl, rfl, rfl, rfl, rfl⟩ rfl rfl rfl rfl rfl named Try.func5 facts inst wrap
    (fun os started H enc _ => lifted os started H enc)

/-- THE STATEMENT -/
theorem proved : Rows.FnExactLostJobsSaid :=
  over
#print axioms proved
end Go.Proofs.Ytfcimcoanlgldaa.fnExactLostJobs
