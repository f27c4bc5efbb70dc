import Derived.Test.YtfcimcoanlgldaaDoorB08

/-
  Servers kept as0 objects: printed by a program (wip/tools/genobj.py). No condition.
-/

namespace Go.Proofs.YtfcimcoanlgldaaDoor
namespace A
set_option linter.unusedVariables false
set_option linter.unusedSimpArgs false
set_option maxRecDepth 100000

theorem call_mid2 {P : Program} {K : AV → List AObj → Nat → Prop} {f : Nat} {l l' : List AV} {a : AObj} {A A2 B C : List AObj} {c : Nat} {Q : AV → List AObj → Nat → Prop} (hf : Con P f l' B c Q) (hv : Views [] l l')
    (k : ∀ r B' c', c ≤ c' → Q r B' c' → tags B' = tags B ∧ Av [] r ∧ (∀ o, o ∈ B' → AvRows [] o) ∧ K r (a :: (A ++ (A2 ++ (B' ++ C)))) c') : CallW P f l (a :: (A ++ (A2 ++ (B ++ C)))) c K := by
  have e : ∀ X : List AObj, a :: (A ++ (A2 ++ (X ++ C))) = a :: ((A ++ A2) ++ (X ++ C)) := fun X => by simp
  rw [e]
  exact call_midr hf hv fun r B' c' hc hq => by rw [← e]; exact k r B' c' hc hq
theorem call_mid3 {P : Program} {K : AV → List AObj → Nat → Prop} {f : Nat} {l l' : List AV} {a : AObj} {A A2 A3 B C : List AObj} {c : Nat} {Q : AV → List AObj → Nat → Prop} (hf : Con P f l' B c Q) (hv : Views [] l l')
    (k : ∀ r B' c', c ≤ c' → Q r B' c' → tags B' = tags B ∧ Av [] r ∧ (∀ o, o ∈ B' → AvRows [] o) ∧ K r (a :: (A ++ (A2 ++ (A3 ++ (B' ++ C))))) c') : CallW P f l (a :: (A ++ (A2 ++ (A3 ++ (B ++ C))))) c K := by
  have e : ∀ X : List AObj, a :: (A ++ (A2 ++ (A3 ++ (X ++ C)))) = a :: ((A ++ (A2 ++ A3)) ++ (X ++ C)) := fun X => by simp
  rw [e]
  exact call_midr hf hv fun r B' c' hc hq => by rw [← e]; exact k r B' c' hc hq
theorem call_mid4 {P : Program} {K : AV → List AObj → Nat → Prop} {f : Nat} {l l' : List AV} {a : AObj} {A A2 A3 A4 B C : List AObj} {c : Nat} {Q : AV → List AObj → Nat → Prop} (hf : Con P f l' B c Q) (hv : Views [] l l')
    (k : ∀ r B' c', c ≤ c' → Q r B' c' → tags B' = tags B ∧ Av [] r ∧ (∀ o, o ∈ B' → AvRows [] o) ∧ K r (a :: (A ++ (A2 ++ (A3 ++ (A4 ++ (B' ++ C)))))) c') : CallW P f l (a :: (A ++ (A2 ++ (A3 ++ (A4 ++ (B ++ C)))))) c K := by
  have e : ∀ X : List AObj, a :: (A ++ (A2 ++ (A3 ++ (A4 ++ (X ++ C))))) = a :: ((A ++ (A2 ++ (A3 ++ A4))) ++ (X ++ C)) := fun X => by simp
  rw [e]
  exact call_midr hf hv fun r B' c' hc hq => by rw [← e]; exact k r B' c' hc hq
theorem TFile.flat : Flat TFile.enc := fun x a ha => by
  simp [TFile.enc] at ha
  rcases ha with rfl | rfl | rfl <;> exact ⟨rfl, fun T => by constructor⟩
theorem toFileSO {s : SL TFile} (h : szFileS s ≤ 1048576) (c : Nat) : Con Tryd.prog 26 [s.av 3 TFile.enc] [] c fun r H' _ => ∃ b : SL TFile, r = b.ref 3 ∧ H' = b.wood 3 TFile.enc noInn ∧ b.list.map TFile.con = s.list.map TFile.con := by
  unfold szFileS at h
  exact toSO_fn (g := 64) (z := [.str [], .str [], .int .i64 0]) (bytes := 40) c26 rfl (fun _ => rfl) (fun _ => rfl) (fun x a ha => (TFile.flat x a ha).2) (fun x o ho => by cases ho) (by omega) (by omega)
    (fun x hx c => (TFile.to_fn (by have := szL_mem (sz := TFile.sz) hx; omega) c).mono fun r H' c' _ ⟨hH, ⟨b, hr, hb⟩, _⟩ => ⟨b, hr, hH, hb⟩) c
def mkFile (k : Int) (x : TFile) : TFile := ⟨mtext k, mtext (k + 1), k + 1 + 1⟩
def cFile (x : TFile) : Nat := 3
theorem markFile_nil (k : Int) : Fnc Tryd.prog 47 [.nsl, .int .i64 k] (.int .i64 k) := by
  refine fn_of c47 (by simp [F47]) fun c => ?_
  unfold F47
  simp
  refine loop_drop 0 (fun i e H c' => e 0 = .nsl ∧ e 1 = .int .i64 k ∧ e 5 = .int .i64 0 ∧ H = []) ⟨rfl, rfl, rfl, rfl⟩ ?_
  intro i e H c hi ⟨e0, e1, e5, hH⟩ N hN
  subst hH
  simp [e0, e1, e5]
  exact fin_plain ⟨rfl, rfl⟩
theorem szL_cFile (l : List TFile) : l.length ≤ szL cFile l := by
  induction l with
  | nil => simp
  | cons x l ih => simp [szL, cFile] at ih ⊢; omega
theorem szL_eFile (l : List TFile) : szL cFile l = 3 * l.length := by
  show szL (fun _ => 3) l = _
  rw [szL_const]
theorem markFile_con1 {l : List TFile} (hz : szL cFile l ≤ 16777216) {k : Int} (hk : 0 ≤ k ∧ k ≤ 1099511627776) (t c : Nat) :
    Con Tryd.prog 47 [.ref 0 t 3 l.length, .int .i64 k] ([⟨false, t, 3, l.map TFile.enc⟩]) c fun r H' _ => r = .int .i64 (k + szL cFile l) ∧ H' = [⟨false, t, 3, (mks mkFile cFile k l).map TFile.enc⟩] := by
  have hln := szL_cFile l
  refine con_of c47 (by simp [F47]) ?_
  unfold F47
  simp
  refine loop_drop l.length (fun i e H c' => e 0 = .ref 0 t 3 l.length ∧ e 1 = .int .i64 (k + szL cFile (l.take i)) ∧ e 5 = .int .i64 i ∧ H = [⟨false, t, 3, (mixed mkFile cFile k l i).map TFile.enc⟩]) ⟨rfl, by simp [szL], rfl, by rw [mixed_zero]⟩ ?_
  intro i e H c hi ⟨e0, e1, e5, hH⟩ N hN
  subst hH
  have hs := mixed_set mkFile cFile k l (i := i)
  have hst := fun h : i < l.length => szL_step cFile l h
  have hle := szL_le cFile l i
  have hle1 := szL_le cFile l (i + 1)
  generalize hjj : k + (szL cFile (l.take i) : Int) = j at e1 hs
  simp [e0, e1, e5]
  refine ⟨fun h => ?_, fun h => ?_⟩
  · have hs := hs h
    have hst := hst h
    have hg := mixed_get mkFile cFile k l h
    have hx := szL_mem (sz := cFile) (List.getElem_mem h)
    generalize l[i] = x at hs hst hg hx
    simp only [cFile] at hx hst
    have w0 : IntKind.i64.wrap (j + 1) = j + 1 := wrap64 (by omega) (by omega)
    have w1 : IntKind.i64.wrap (j + 1 + 1) = j + 1 + 1 := wrap64 (by omega) (by omega)
    have w2 : IntKind.i64.wrap (j + 1 + 1 + 1) = j + 1 + 1 + 1 := wrap64 (by omega) (by omega)
    refine call_fn0 (mtext_fn (by omega)) .str fun _ _ => ?_
    simp [e0, e1, e5, h]
    refine ⟨_, hg, ?_⟩
    simp [e0, e1, e5, h, mixed_len, w0, w1, w2, putA, TFile.enc]
    refine call_fn0 (mtext_fn (by omega)) .str fun _ _ => ?_
    simp [e0, e1, e5, h, mixed_len, w0, w1, w2, putA, TFile.enc]
    refine hN _ _ _ _ h (List.Sublist.refl _) ⟨by simp [upd, e0], ?_, by simp [upd]; exact step64 (by unfold mx; omega) h, ?_⟩
    · simp [upd, w0, w1, w2, hst]; omega
    · rw [← hs, List.map_set]
      simp [mkFile, TFile.enc, w0, w1, w2]
  · have h1 : i = l.length := by omega
    subst h1
    refine fin_all ⟨?_, ?_⟩
    · rw [← hjj]; simp
    · rw [mixed_all]
theorem markFile_con {s : SL TFile} (hz : szL cFile s.list ≤ 16777216) {k : Int} (hk : 0 ≤ k ∧ k ≤ 1099511627776) (c : Nat) :
    Con Tryd.prog 47 [s.ref 3, .int .i64 k] (s.wood 3 TFile.enc noInn) c fun r H' _ => r = .int .i64 (k + szL cFile s.list) ∧ H' = (s.marks mkFile cFile k).wood 3 TFile.enc noInn := by
  cases s with
  | nil =>
    have := markFile_nil k c
    simpa [SL.ref, SL.wood, SL.marks, szL] using this
  | mk t l =>
    have := markFile_con1 (l := l) hz hk t c
    simpa [SL.ref, SL.wood, SL.marks, wood_flat] using this
theorem TSession.flat : Flat TSession.enc := fun x a ha => by
  simp [TSession.enc] at ha
  rcases ha with rfl | rfl | rfl | rfl <;> exact ⟨rfl, fun T => by constructor⟩
def mkSession (k : Int) (x : TSession) : TSession := ⟨mtext k, mtext (k + 1), k + 1 + 1, k + 1 + 1 + 1⟩
def cSession (x : TSession) : Nat := 4
theorem markSession_nil (k : Int) : Fnc Tryd.prog 102 [.nsl, .int .i64 k] (.int .i64 k) := by
  refine fn_of c102 (by simp [F102]) fun c => ?_
  unfold F102
  simp
  refine loop_drop 0 (fun i e H c' => e 0 = .nsl ∧ e 1 = .int .i64 k ∧ e 5 = .int .i64 0 ∧ H = []) ⟨rfl, rfl, rfl, rfl⟩ ?_
  intro i e H c hi ⟨e0, e1, e5, hH⟩ N hN
  subst hH
  simp [e0, e1, e5]
  exact fin_plain ⟨rfl, rfl⟩
theorem szL_cSession (l : List TSession) : l.length ≤ szL cSession l := by
  induction l with
  | nil => simp
  | cons x l ih => simp [szL, cSession] at ih ⊢; omega
theorem szL_eSession (l : List TSession) : szL cSession l = 4 * l.length := by
  show szL (fun _ => 4) l = _
  rw [szL_const]
theorem markSession_con1 {l : List TSession} (hz : szL cSession l ≤ 16777216) {k : Int} (hk : 0 ≤ k ∧ k ≤ 1099511627776) (t c : Nat) :
    Con Tryd.prog 102 [.ref 0 t 4 l.length, .int .i64 k] ([⟨false, t, 4, l.map TSession.enc⟩]) c fun r H' _ => r = .int .i64 (k + szL cSession l) ∧ H' = [⟨false, t, 4, (mks mkSession cSession k l).map TSession.enc⟩] := by
  have hln := szL_cSession l
  refine con_of c102 (by simp [F102]) ?_
  unfold F102
  simp
  refine loop_drop l.length (fun i e H c' => e 0 = .ref 0 t 4 l.length ∧ e 1 = .int .i64 (k + szL cSession (l.take i)) ∧ e 5 = .int .i64 i ∧ H = [⟨false, t, 4, (mixed mkSession cSession k l i).map TSession.enc⟩]) ⟨rfl, by simp [szL], rfl, by rw [mixed_zero]⟩ ?_
  intro i e H c hi ⟨e0, e1, e5, hH⟩ N hN
  subst hH
  have hs := mixed_set mkSession cSession k l (i := i)
  have hst := fun h : i < l.length => szL_step cSession l h
  have hle := szL_le cSession l i
  have hle1 := szL_le cSession l (i + 1)
  generalize hjj : k + (szL cSession (l.take i) : Int) = j at e1 hs
  simp [e0, e1, e5]
  refine ⟨fun h => ?_, fun h => ?_⟩
  · have hs := hs h
    have hst := hst h
    have hg := mixed_get mkSession cSession k l h
    have hx := szL_mem (sz := cSession) (List.getElem_mem h)
    generalize l[i] = x at hs hst hg hx
    simp only [cSession] at hx hst
    have w0 : IntKind.i64.wrap (j + 1) = j + 1 := wrap64 (by omega) (by omega)
    have w1 : IntKind.i64.wrap (j + 1 + 1) = j + 1 + 1 := wrap64 (by omega) (by omega)
    have w2 : IntKind.i64.wrap (j + 1 + 1 + 1) = j + 1 + 1 + 1 := wrap64 (by omega) (by omega)
    have w3 : IntKind.i64.wrap (j + 1 + 1 + 1 + 1) = j + 1 + 1 + 1 + 1 := wrap64 (by omega) (by omega)
    refine call_fn0 (mtext_fn (by omega)) .str fun _ _ => ?_
    simp [e0, e1, e5, h]
    refine ⟨_, hg, ?_⟩
    simp [e0, e1, e5, h, mixed_len, w0, w1, w2, w3, putA, TSession.enc]
    refine call_fn0 (mtext_fn (by omega)) .str fun _ _ => ?_
    simp [e0, e1, e5, h, mixed_len, w0, w1, w2, w3, putA, TSession.enc]
    refine hN _ _ _ _ h (List.Sublist.refl _) ⟨by simp [upd, e0], ?_, by simp [upd]; exact step64 (by unfold mx; omega) h, ?_⟩
    · simp [upd, w0, w1, w2, w3, hst]; omega
    · rw [← hs, List.map_set]
      simp [mkSession, TSession.enc, w0, w1, w2, w3]
  · have h1 : i = l.length := by omega
    subst h1
    refine fin_all ⟨?_, ?_⟩
    · rw [← hjj]; simp
    · rw [mixed_all]
theorem markSession_con {s : SL TSession} (hz : szL cSession s.list ≤ 16777216) {k : Int} (hk : 0 ≤ k ∧ k ≤ 1099511627776) (c : Nat) :
    Con Tryd.prog 102 [s.ref 4, .int .i64 k] (s.wood 4 TSession.enc noInn) c fun r H' _ => r = .int .i64 (k + szL cSession s.list) ∧ H' = (s.marks mkSession cSession k).wood 4 TSession.enc noInn := by
  cases s with
  | nil =>
    have := markSession_nil k c
    simpa [SL.ref, SL.wood, SL.marks, szL] using this
  | mk t l =>
    have := markSession_con1 (l := l) hz hk t c
    simpa [SL.ref, SL.wood, SL.marks, wood_flat] using this
theorem TPair.flat : Flat TPair.enc := fun x a ha => by
  simp [TPair.enc] at ha
  rcases ha with rfl | rfl <;> exact ⟨rfl, fun T => by constructor⟩
theorem toPairSO {s : SL TPair} (h : szPairS s ≤ 1048576) (c : Nat) : Con Tryd.prog 70 [s.av 2 TPair.enc] [] c fun r H' _ => ∃ b : SL TPair, r = b.ref 2 ∧ H' = b.wood 2 TPair.enc noInn ∧ b.list.map TPair.con = s.list.map TPair.con := by
  unfold szPairS at h
  exact toSO_fn (g := 124) (z := [.str [], .str []]) (bytes := 32) c70 rfl (fun _ => rfl) (fun _ => rfl) (fun x a ha => (TPair.flat x a ha).2) (fun x o ho => by cases ho) (by omega) (by omega)
    (fun x hx c => (TPair.to_fn (by have := szL_mem (sz := TPair.sz) hx; omega) c).mono fun r H' c' _ ⟨hH, ⟨b, hr, hb⟩, _⟩ => ⟨b, hr, hH, hb⟩) c
def mkPair (k : Int) (x : TPair) : TPair := ⟨mtext k, mtext (k + 1)⟩
def cPair (x : TPair) : Nat := 2
theorem markPair_nil (k : Int) : Fnc Tryd.prog 15 [.nsl, .int .i64 k] (.int .i64 k) := by
  refine fn_of c15 (by simp [F15]) fun c => ?_
  unfold F15
  simp
  refine loop_drop 0 (fun i e H c' => e 0 = .nsl ∧ e 1 = .int .i64 k ∧ e 5 = .int .i64 0 ∧ H = []) ⟨rfl, rfl, rfl, rfl⟩ ?_
  intro i e H c hi ⟨e0, e1, e5, hH⟩ N hN
  subst hH
  simp [e0, e1, e5]
  exact fin_plain ⟨rfl, rfl⟩
theorem szL_cPair (l : List TPair) : l.length ≤ szL cPair l := by
  induction l with
  | nil => simp
  | cons x l ih => simp [szL, cPair] at ih ⊢; omega
theorem szL_ePair (l : List TPair) : szL cPair l = 2 * l.length := by
  show szL (fun _ => 2) l = _
  rw [szL_const]
theorem markPair_con1 {l : List TPair} (hz : szL cPair l ≤ 16777216) {k : Int} (hk : 0 ≤ k ∧ k ≤ 1099511627776) (t c : Nat) :
    Con Tryd.prog 15 [.ref 0 t 2 l.length, .int .i64 k] ([⟨false, t, 2, l.map TPair.enc⟩]) c fun r H' _ => r = .int .i64 (k + szL cPair l) ∧ H' = [⟨false, t, 2, (mks mkPair cPair k l).map TPair.enc⟩] := by
  have hln := szL_cPair l
  refine con_of c15 (by simp [F15]) ?_
  unfold F15
  simp
  refine loop_drop l.length (fun i e H c' => e 0 = .ref 0 t 2 l.length ∧ e 1 = .int .i64 (k + szL cPair (l.take i)) ∧ e 5 = .int .i64 i ∧ H = [⟨false, t, 2, (mixed mkPair cPair k l i).map TPair.enc⟩]) ⟨rfl, by simp [szL], rfl, by rw [mixed_zero]⟩ ?_
  intro i e H c hi ⟨e0, e1, e5, hH⟩ N hN
  subst hH
  have hs := mixed_set mkPair cPair k l (i := i)
  have hst := fun h : i < l.length => szL_step cPair l h
  have hle := szL_le cPair l i
  have hle1 := szL_le cPair l (i + 1)
  generalize hjj : k + (szL cPair (l.take i) : Int) = j at e1 hs
  simp [e0, e1, e5]
  refine ⟨fun h => ?_, fun h => ?_⟩
  · have hs := hs h
    have hst := hst h
    have hg := mixed_get mkPair cPair k l h
    have hx := szL_mem (sz := cPair) (List.getElem_mem h)
    generalize l[i] = x at hs hst hg hx
    simp only [cPair] at hx hst
    have w0 : IntKind.i64.wrap (j + 1) = j + 1 := wrap64 (by omega) (by omega)
    have w1 : IntKind.i64.wrap (j + 1 + 1) = j + 1 + 1 := wrap64 (by omega) (by omega)
    refine call_fn0 (mtext_fn (by omega)) .str fun _ _ => ?_
    simp [e0, e1, e5, h]
    refine ⟨_, hg, ?_⟩
    simp [e0, e1, e5, h, mixed_len, w0, w1, putA, TPair.enc]
    refine call_fn0 (mtext_fn (by omega)) .str fun _ _ => ?_
    simp [e0, e1, e5, h, mixed_len, w0, w1, putA, TPair.enc]
    refine hN _ _ _ _ h (List.Sublist.refl _) ⟨by simp [upd, e0], ?_, by simp [upd]; exact step64 (by unfold mx; omega) h, ?_⟩
    · simp [upd, w0, w1, hst]; omega
    · rw [← hs, List.map_set]
      simp [mkPair, TPair.enc, w0, w1]
  · have h1 : i = l.length := by omega
    subst h1
    refine fin_all ⟨?_, ?_⟩
    · rw [← hjj]; simp
    · rw [mixed_all]
theorem markPair_con {s : SL TPair} (hz : szL cPair s.list ≤ 16777216) {k : Int} (hk : 0 ≤ k ∧ k ≤ 1099511627776) (c : Nat) :
    Con Tryd.prog 15 [s.ref 2, .int .i64 k] (s.wood 2 TPair.enc noInn) c fun r H' _ => r = .int .i64 (k + szL cPair s.list) ∧ H' = (s.marks mkPair cPair k).wood 2 TPair.enc noInn := by
  cases s with
  | nil =>
    have := markPair_nil k c
    simpa [SL.ref, SL.wood, SL.marks, szL] using this
  | mk t l =>
    have := markPair_con1 (l := l) hz hk t c
    simpa [SL.ref, SL.wood, SL.marks, wood_flat] using this
theorem THeader.flat : Flat THeader.enc := fun x a ha => by
  simp [THeader.enc] at ha
  rcases ha with rfl | rfl <;> exact ⟨rfl, fun T => by constructor⟩
theorem toHeaderSO {s : SL THeader} (h : szHeaderS s ≤ 1048576) (c : Nat) : Con Tryd.prog 57 [s.av 2 THeader.enc] [] c fun r H' _ => ∃ b : SL THeader, r = b.ref 2 ∧ H' = b.wood 2 THeader.enc noInn ∧ b.list.map THeader.con = s.list.map THeader.con := by
  unfold szHeaderS at h
  exact toSO_fn (g := 118) (z := [.str [], .str []]) (bytes := 32) c57 rfl (fun _ => rfl) (fun _ => rfl) (fun x a ha => (THeader.flat x a ha).2) (fun x o ho => by cases ho) (by omega) (by omega)
    (fun x hx c => (THeader.to_fn (by have := szL_mem (sz := THeader.sz) hx; omega) c).mono fun r H' c' _ ⟨hH, ⟨b, hr, hb⟩, _⟩ => ⟨b, hr, hH, hb⟩) c
def mkHeader (k : Int) (x : THeader) : THeader := ⟨mtext k, mtext (k + 1)⟩
def cHeader (x : THeader) : Nat := 2
theorem markHeader_nil (k : Int) : Fnc Tryd.prog 89 [.nsl, .int .i64 k] (.int .i64 k) := by
  refine fn_of c89 (by simp [F89]) fun c => ?_
  unfold F89
  simp
  refine loop_drop 0 (fun i e H c' => e 0 = .nsl ∧ e 1 = .int .i64 k ∧ e 5 = .int .i64 0 ∧ H = []) ⟨rfl, rfl, rfl, rfl⟩ ?_
  intro i e H c hi ⟨e0, e1, e5, hH⟩ N hN
  subst hH
  simp [e0, e1, e5]
  exact fin_plain ⟨rfl, rfl⟩
theorem szL_cHeader (l : List THeader) : l.length ≤ szL cHeader l := by
  induction l with
  | nil => simp
  | cons x l ih => simp [szL, cHeader] at ih ⊢; omega
theorem szL_eHeader (l : List THeader) : szL cHeader l = 2 * l.length := by
  show szL (fun _ => 2) l = _
  rw [szL_const]
theorem markHeader_con1 {l : List THeader} (hz : szL cHeader l ≤ 16777216) {k : Int} (hk : 0 ≤ k ∧ k ≤ 1099511627776) (t c : Nat) :
    Con Tryd.prog 89 [.ref 0 t 2 l.length, .int .i64 k] ([⟨false, t, 2, l.map THeader.enc⟩]) c fun r H' _ => r = .int .i64 (k + szL cHeader l) ∧ H' = [⟨false, t, 2, (mks mkHeader cHeader k l).map THeader.enc⟩] := by
  have hln := szL_cHeader l
  refine con_of c89 (by simp [F89]) ?_
  unfold F89
  simp
  refine loop_drop l.length (fun i e H c' => e 0 = .ref 0 t 2 l.length ∧ e 1 = .int .i64 (k + szL cHeader (l.take i)) ∧ e 5 = .int .i64 i ∧ H = [⟨false, t, 2, (mixed mkHeader cHeader k l i).map THeader.enc⟩]) ⟨rfl, by simp [szL], rfl, by rw [mixed_zero]⟩ ?_
  intro i e H c hi ⟨e0, e1, e5, hH⟩ N hN
  subst hH
  have hs := mixed_set mkHeader cHeader k l (i := i)
  have hst := fun h : i < l.length => szL_step cHeader l h
  have hle := szL_le cHeader l i
  have hle1 := szL_le cHeader l (i + 1)
  generalize hjj : k + (szL cHeader (l.take i) : Int) = j at e1 hs
  simp [e0, e1, e5]
  refine ⟨fun h => ?_, fun h => ?_⟩
  · have hs := hs h
    have hst := hst h
    have hg := mixed_get mkHeader cHeader k l h
    have hx := szL_mem (sz := cHeader) (List.getElem_mem h)
    generalize l[i] = x at hs hst hg hx
    simp only [cHeader] at hx hst
    have w0 : IntKind.i64.wrap (j + 1) = j + 1 := wrap64 (by omega) (by omega)
    have w1 : IntKind.i64.wrap (j + 1 + 1) = j + 1 + 1 := wrap64 (by omega) (by omega)
    refine call_fn0 (mtext_fn (by omega)) .str fun _ _ => ?_
    simp [e0, e1, e5, h]
    refine ⟨_, hg, ?_⟩
    simp [e0, e1, e5, h, mixed_len, w0, w1, putA, THeader.enc]
    refine call_fn0 (mtext_fn (by omega)) .str fun _ _ => ?_
    simp [e0, e1, e5, h, mixed_len, w0, w1, putA, THeader.enc]
    refine hN _ _ _ _ h (List.Sublist.refl _) ⟨by simp [upd, e0], ?_, by simp [upd]; exact step64 (by unfold mx; omega) h, ?_⟩
    · simp [upd, w0, w1, hst]; omega
    · rw [← hs, List.map_set]
      simp [mkHeader, THeader.enc, w0, w1]
  · have h1 : i = l.length := by omega
    subst h1
    refine fin_all ⟨?_, ?_⟩
    · rw [← hjj]; simp
    · rw [mixed_all]
theorem markHeader_con {s : SL THeader} (hz : szL cHeader s.list ≤ 16777216) {k : Int} (hk : 0 ≤ k ∧ k ≤ 1099511627776) (c : Nat) :
    Con Tryd.prog 89 [s.ref 2, .int .i64 k] (s.wood 2 THeader.enc noInn) c fun r H' _ => r = .int .i64 (k + szL cHeader s.list) ∧ H' = (s.marks mkHeader cHeader k).wood 2 THeader.enc noInn := by
  cases s with
  | nil =>
    have := markHeader_nil k c
    simpa [SL.ref, SL.wood, SL.marks, szL] using this
  | mk t l =>
    have := markHeader_con1 (l := l) hz hk t c
    simpa [SL.ref, SL.wood, SL.marks, wood_flat] using this
def TRequest.encO (s : TRequest) : List AV := [.str s.Path, s.Query.ref 2, s.Cookies.ref 2]
def TRequest.inn (s : TRequest) : List AObj := s.Query.wood 2 TPair.enc noInn ++ (s.Cookies.wood 2 TPair.enc noInn)
@[simp] theorem TRequest.lenO (s : TRequest) : s.encO.length = 3 := (rfl)
@[simp] theorem TRequest.allO (s : TRequest) : s.encO.take 3 = s.encO := (rfl)
@[simp] theorem TRequest.o0 (s : TRequest) (K : AV → Prop) : getW s.encO 0 K = K (.str s.Path) := by simp [TRequest.encO]
@[simp] theorem TRequest.o1 (s : TRequest) (K : AV → Prop) : getW s.encO 1 K = K (s.Query.ref 2) := by simp [TRequest.encO]
@[simp] theorem TRequest.o2 (s : TRequest) (K : AV → Prop) : getW s.encO 2 K = K (s.Cookies.ref 2) := by simp [TRequest.encO]
theorem TRequest.freeO : ∀ (x : TRequest) a, a ∈ x.encO → Free a := fun x a ha => by
  simp [TRequest.encO] at ha
  rcases ha with rfl | rfl | rfl
  · exact free_str _
  · exact free_ref _ _
  · exact free_ref _ _
theorem TRequest.freeI : ∀ (x : TRequest) o, o ∈ x.inn → ∀ T, AvRows T o := fun x o ho => by
  simp only [TRequest.inn, List.mem_append] at ho
  rcases ho with ho | ho
  · exact flat_free TPair.flat _ _ o ho
  · exact flat_free TPair.flat _ _ o ho
theorem TRequest.viewO {S : List AObj} (x : TRequest) (h : ∀ o, o ∈ x.inn → o ∈ S) : ∀ (j : Nat) (a a' : AV), x.encO[j]? = some a → x.enc[j]? = some a' → View S a a' := fun j a a' h1 h2 => by
  match j, h1, h2 with
  | 0, h1, h2 => simp [TRequest.encO] at h1; simp [TRequest.enc] at h2; subst h1; subst h2; exact .refl _
  | 1, h1, h2 => simp [TRequest.encO] at h1; simp [TRequest.enc] at h2; subst h1; subst h2; exact view_flat (fun o ho => h o (by simp [TRequest.inn, ho])) TPair.flat.cells
  | 2, h1, h2 => simp [TRequest.encO] at h1; simp [TRequest.enc] at h2; subst h1; subst h2; exact view_flat (fun o ho => h o (by simp [TRequest.inn, ho])) TPair.flat.cells
  | j + 3, h1, h2 => simp [TRequest.encO] at h1
theorem view_ORequest {S : List AObj} {s : SL TRequest} (hs : ∀ o, o ∈ s.wood 3 TRequest.encO TRequest.inn → o ∈ S) : View S (s.ref 3) (s.av 3 TRequest.enc) :=
  view_wood hs (fun x => TRequest.cells x) (fun _ => rfl) fun x h => TRequest.viewO x h
theorem view_ARequest {S : List AObj} {s : TRequest} (hs : ∀ o, o ∈ s.inn → o ∈ S) : View S (.agg s.encO) (.agg s.enc) :=
  .agg rfl (fun j a ha => TRequest.cells s a (List.mem_of_getElem? ha)) (TRequest.viewO s hs)
theorem toRequestO {x : TRequest} (h : x.sz ≤ 1048576) (c : Nat) : Con Tryd.prog 31 [.agg x.enc] [] c fun r O _ => ∃ b : TRequest, r = .agg b.encO ∧ O = b.inn ∧ b.con = x.con := by
  simp only [TRequest.sz] at h
  refine con_of c31 (by simp [F31]) ?_
  unfold F31
  simp [putA]
  refine call_new (toPairSO (by omega) _) (Views.refl _ _) fun r1 O1 c1 hc1 ⟨b1, hr, hO, q1⟩ _ _ => ?_
  subst hr; subst hO
  refine ⟨_, .refl _, free_ref _ _ _, fun o ho => flat_free TPair.flat _ _ o ho _, ?_⟩
  simp [putA]
  refine call_new (toPairSO (by omega) _) (Views.refl _ _) fun r2 O2 c2 hc2 ⟨b2, hr, hO, q2⟩ _ _ => ?_
  subst hr; subst hO
  refine ⟨_, .refl _, free_ref _ _ _, fun o ho => flat_free TPair.flat _ _ o ho _, ?_⟩
  simp [putA]
  refine fin_sub (Hk := b1.wood 2 TPair.enc noInn ++ (b2.wood 2 TPair.enc noInn)) ?_ (.refl _) ⟨⟨x.Path, b1, b2⟩, rfl, by simp [TRequest.inn], by simp [TRequest.con, SL.con, SL.pcon, q1, q2]⟩
  exact ((List.Sublist.refl _).cons _).cons _ |>.cons _
def TResponse.encO (s : TResponse) : List AV := [.int .i64 s.Code, s.Headers.ref 2, .str s.Body]
def TResponse.inn (s : TResponse) : List AObj := s.Headers.wood 2 THeader.enc noInn
@[simp] theorem TResponse.lenO (s : TResponse) : s.encO.length = 3 := (rfl)
@[simp] theorem TResponse.allO (s : TResponse) : s.encO.take 3 = s.encO := (rfl)
@[simp] theorem TResponse.o0 (s : TResponse) (K : AV → Prop) : getW s.encO 0 K = K (.int .i64 s.Code) := by simp [TResponse.encO]
@[simp] theorem TResponse.o1 (s : TResponse) (K : AV → Prop) : getW s.encO 1 K = K (s.Headers.ref 2) := by simp [TResponse.encO]
@[simp] theorem TResponse.o2 (s : TResponse) (K : AV → Prop) : getW s.encO 2 K = K (.str s.Body) := by simp [TResponse.encO]
theorem TResponse.freeO : ∀ (x : TResponse) a, a ∈ x.encO → Free a := fun x a ha => by
  simp [TResponse.encO] at ha
  rcases ha with rfl | rfl | rfl
  · exact free_int _ _
  · exact free_ref _ _
  · exact free_str _
theorem TResponse.freeI : ∀ (x : TResponse) o, o ∈ x.inn → ∀ T, AvRows T o := fun x o ho => by
  exact flat_free THeader.flat _ _ o ho
theorem TResponse.viewO {S : List AObj} (x : TResponse) (h : ∀ o, o ∈ x.inn → o ∈ S) : ∀ (j : Nat) (a a' : AV), x.encO[j]? = some a → x.enc[j]? = some a' → View S a a' := fun j a a' h1 h2 => by
  match j, h1, h2 with
  | 0, h1, h2 => simp [TResponse.encO] at h1; simp [TResponse.enc] at h2; subst h1; subst h2; exact .refl _
  | 1, h1, h2 => simp [TResponse.encO] at h1; simp [TResponse.enc] at h2; subst h1; subst h2; exact view_flat (fun o ho => h o (by simp [TResponse.inn, ho])) THeader.flat.cells
  | 2, h1, h2 => simp [TResponse.encO] at h1; simp [TResponse.enc] at h2; subst h1; subst h2; exact .refl _
  | j + 3, h1, h2 => simp [TResponse.encO] at h1
theorem view_OResponse {S : List AObj} {s : SL TResponse} (hs : ∀ o, o ∈ s.wood 3 TResponse.encO TResponse.inn → o ∈ S) : View S (s.ref 3) (s.av 3 TResponse.enc) :=
  view_wood hs (fun x => TResponse.cells x) (fun _ => rfl) fun x h => TResponse.viewO x h
theorem view_AResponse {S : List AObj} {s : TResponse} (hs : ∀ o, o ∈ s.inn → o ∈ S) : View S (.agg s.encO) (.agg s.enc) :=
  .agg rfl (fun j a ha => TResponse.cells s a (List.mem_of_getElem? ha)) (TResponse.viewO s hs)
theorem toResponseO {x : TResponse} (h : x.sz ≤ 1048576) (c : Nat) : Con Tryd.prog 21 [.agg x.enc] [] c fun r O _ => ∃ b : TResponse, r = .agg b.encO ∧ O = b.inn ∧ b.con = x.con := by
  simp only [TResponse.sz] at h
  refine con_of c21 (by simp [F21]) ?_
  unfold F21
  simp [putA]
  refine call_new (toHeaderSO (by omega) _) (Views.refl _ _) fun r1 O1 c1 hc1 ⟨b1, hr, hO, q1⟩ _ _ => ?_
  subst hr; subst hO
  refine ⟨_, .refl _, free_ref _ _ _, fun o ho => flat_free THeader.flat _ _ o ho _, ?_⟩
  simp [putA]
  refine fin_sub (Hk := b1.wood 2 THeader.enc noInn) ?_ (.refl _) ⟨⟨x.Code, b1, x.Body⟩, rfl, by simp [TResponse.inn], by simp [TResponse.con, SL.con, SL.pcon, q1]⟩
  exact ((List.Sublist.refl _).cons _).cons _ |>.cons _
def TJob.encO (s : TJob) : List AV := [.int .i64 s.Id, .str s.Request.Path, s.Request.Query.ref 2, s.Request.Cookies.ref 2, .str s.Session]
def TJob.inn (s : TJob) : List AObj := s.Request.Query.wood 2 TPair.enc noInn ++ (s.Request.Cookies.wood 2 TPair.enc noInn)
@[simp] theorem TJob.lenO (s : TJob) : s.encO.length = 5 := (rfl)
@[simp] theorem TJob.allO (s : TJob) : s.encO.take 5 = s.encO := (rfl)
@[simp] theorem TJob.o0 (s : TJob) (K : AV → Prop) : getW s.encO 0 K = K (.int .i64 s.Id) := by simp [TJob.encO]
@[simp] theorem TJob.o1 (s : TJob) (K : AV → Prop) : getW s.encO 1 K = K (.str s.Request.Path) := by simp [TJob.encO]
@[simp] theorem TJob.o2 (s : TJob) (K : AV → Prop) : getW s.encO 2 K = K (s.Request.Query.ref 2) := by simp [TJob.encO]
@[simp] theorem TJob.o3 (s : TJob) (K : AV → Prop) : getW s.encO 3 K = K (s.Request.Cookies.ref 2) := by simp [TJob.encO]
@[simp] theorem TJob.o4 (s : TJob) (K : AV → Prop) : getW s.encO 4 K = K (.str s.Session) := by simp [TJob.encO]
theorem TJob.freeO : ∀ (x : TJob) a, a ∈ x.encO → Free a := fun x a ha => by
  simp [TJob.encO] at ha
  rcases ha with rfl | rfl | rfl | rfl | rfl
  · exact free_int _ _
  · exact free_str _
  · exact free_ref _ _
  · exact free_ref _ _
  · exact free_str _
theorem TJob.freeI : ∀ (x : TJob) o, o ∈ x.inn → ∀ T, AvRows T o := fun x o ho => by
  simp only [TJob.inn, List.mem_append] at ho
  rcases ho with ho | ho
  · exact flat_free TPair.flat _ _ o ho
  · exact flat_free TPair.flat _ _ o ho
theorem TJob.viewO {S : List AObj} (x : TJob) (h : ∀ o, o ∈ x.inn → o ∈ S) : ∀ (j : Nat) (a a' : AV), x.encO[j]? = some a → x.enc[j]? = some a' → View S a a' := fun j a a' h1 h2 => by
  match j, h1, h2 with
  | 0, h1, h2 => simp [TJob.encO] at h1; simp [TJob.enc] at h2; subst h1; subst h2; exact .refl _
  | 1, h1, h2 => simp [TJob.encO] at h1; simp [TJob.enc] at h2; subst h1; subst h2; exact .refl _
  | 2, h1, h2 => simp [TJob.encO] at h1; simp [TJob.enc] at h2; subst h1; subst h2; exact view_flat (fun o ho => h o (by simp [TJob.inn, ho])) TPair.flat.cells
  | 3, h1, h2 => simp [TJob.encO] at h1; simp [TJob.enc] at h2; subst h1; subst h2; exact view_flat (fun o ho => h o (by simp [TJob.inn, ho])) TPair.flat.cells
  | 4, h1, h2 => simp [TJob.encO] at h1; simp [TJob.enc] at h2; subst h1; subst h2; exact .refl _
  | j + 5, h1, h2 => simp [TJob.encO] at h1
theorem view_OJob {S : List AObj} {s : SL TJob} (hs : ∀ o, o ∈ s.wood 5 TJob.encO TJob.inn → o ∈ S) : View S (s.ref 5) (s.av 5 TJob.enc) :=
  view_wood hs (fun x => TJob.cells x) (fun _ => rfl) fun x h => TJob.viewO x h
theorem view_AJob {S : List AObj} {s : TJob} (hs : ∀ o, o ∈ s.inn → o ∈ S) : View S (.agg s.encO) (.agg s.enc) :=
  .agg rfl (fun j a ha => TJob.cells s a (List.mem_of_getElem? ha)) (TJob.viewO s hs)
def mkJob (k : Int) (x : TJob) : TJob := ⟨k, ⟨mtext (k + 1), x.Request.Query.marks mkPair cPair (k + 1 + 1), x.Request.Cookies.marks mkPair cPair (k + 1 + 1 + szL cPair x.Request.Query.list)⟩, mtext (k + 1 + 1 + szL cPair x.Request.Query.list + szL cPair x.Request.Cookies.list)⟩
def cJob (x : TJob) : Nat := 3 + szL cPair x.Request.Query.list + szL cPair x.Request.Cookies.list
theorem markJob_nil (k : Int) : Fnc Tryd.prog 103 [.nsl, .int .i64 k] (.int .i64 k) := by
  refine fn_of c103 (by simp [F103]) fun c => ?_
  unfold F103
  simp
  refine loop_drop 0 (fun i e H c' => e 0 = .nsl ∧ e 1 = .int .i64 k ∧ e 5 = .int .i64 0 ∧ H = []) ⟨rfl, rfl, rfl, rfl⟩ ?_
  intro i e H c hi ⟨e0, e1, e5, hH⟩ N hN
  subst hH
  simp [e0, e1, e5]
  exact fin_plain ⟨rfl, rfl⟩
theorem szL_cJob (l : List TJob) : l.length ≤ szL cJob l := by
  induction l with
  | nil => simp
  | cons x l ih => simp [szL, cJob] at ih ⊢; omega
theorem mkJob_encO (k : Int) (x : TJob) : (mkJob k x).encO = [.int .i64 (k), .str (mtext (k + 1)), x.Request.Query.ref 2, x.Request.Cookies.ref 2, .str (mtext (k + 1 + 1 + szL cPair x.Request.Query.list + szL cPair x.Request.Cookies.list))] := by
  simp [mkJob, TJob.encO, SL.marks_ref]
theorem mkJob_tags (k : Int) (x : TJob) : tags (mkJob k x).inn = tags x.inn := by
  have eT : ∀ X Y : List AObj, tags (X ++ Y) = tags X ++ tags Y := fun X Y => by simp [tags]
  simp only [TJob.inn, mkJob, eT, flat_marks (enc := TPair.enc) (w := 2) mkPair cPair]
theorem markJob_con1 {l : List TJob} (hz : szL cJob l ≤ 16777216) {k : Int} (hk : 0 ≤ k ∧ k ≤ 549755813888) (t c : Nat) :
    Con Tryd.prog 103 [.ref 0 t 5 l.length, .int .i64 k] (wood t 5 TJob.encO TJob.inn l) c fun r H' _ => r = .int .i64 (k + szL cJob l) ∧ H' = wood t 5 TJob.encO TJob.inn (mks mkJob cJob k l) := by
  have hln := szL_cJob l
  refine con_of c103 (by simp [F103]) ?_
  unfold F103
  simp
  refine loop_drop l.length (fun i e H c' => e 0 = .ref 0 t 5 l.length ∧ e 1 = .int .i64 (k + szL cJob (l.take i)) ∧ e 5 = .int .i64 i ∧ H = ⟨false, t, 5, (mixed mkJob cJob k l i).map TJob.encO⟩ :: (mixed mkJob cJob k l i).flatMap TJob.inn) ⟨rfl, by simp [szL], rfl, by rw [mixed_zero]; rfl⟩ ?_
  intro i e H c hi ⟨e0, e1, e5, hH⟩ N hN
  subst hH
  have hs := mixed_set mkJob cJob k l (i := i)
  have hst := fun h : i < l.length => szL_step cJob l h
  have hle := szL_le cJob l i
  have hle1 := szL_le cJob l (i + 1)
  have hfl := fun h : i < l.length => mixed_flat (mk := mkJob) (cnt := cJob) (k := k) (inn := TJob.inn) h
  have hfl' := fun h : i < l.length => mixed_flat' (mk := mkJob) (cnt := cJob) (k := k) (inn := TJob.inn) h
  generalize hjj : k + (szL cJob (l.take i) : Int) = j at e1 hs hfl'
  simp [e0, e1, e5]
  refine ⟨fun h => ?_, fun h => ?_⟩
  · have hs := hs h
    have hst := hst h
    have hg := mixed_get mkJob cJob k l h
    have hx := szL_mem (sz := cJob) (List.getElem_mem h)
    rw [hfl h]
    have hfl' := hfl' h
    generalize l[i] = x at hs hst hg hx hfl'
    generalize (mks mkJob cJob k (l.take i)).flatMap TJob.inn = PRE at hfl' ⊢
    generalize (l.drop (i + 1)).flatMap TJob.inn = POST at hfl' ⊢
    simp only [cJob] at hx hst
    have w0 : IntKind.i64.wrap (j + 1) = j + 1 := wrap64 (by omega) (by omega)
    have w1 : IntKind.i64.wrap (j + 1 + 1) = j + 1 + 1 := wrap64 (by omega) (by omega)
    have w4 : IntKind.i64.wrap (j + 1 + 1 + szL cPair x.Request.Query.list + szL cPair x.Request.Cookies.list + 1) = j + 1 + 1 + szL cPair x.Request.Query.list + szL cPair x.Request.Cookies.list + 1 := wrap64 (by omega) (by omega)
    refine ⟨h, x, hg, ?_⟩
    simp [e0, e1, e5, h, mixed_len, w0, w1, w4, putA, TJob.encO, TJob.inn]
    refine call_fn0 (mtext_fn (by omega)) .str fun _ _ => ?_
    simp [e0, e1, e5, h, mixed_len, w0, w1, w4, putA, TJob.encO, TJob.inn]
    refine call_midr (f := 15) (B := x.Request.Query.wood 2 TPair.enc noInn) (markPair_con (s := x.Request.Query) (by omega) (k := j + 1 + 1) ⟨by omega, by omega⟩ _) (Views.refl _ _) fun r B' c' hc ⟨q1, q2⟩ => ?_
    subst q1; subst q2
    refine ⟨flat_marks (enc := TPair.enc) (w := 2) mkPair cPair _ x.Request.Query, .int, fun o ho => flat_free TPair.flat _ _ o ho _, ?_⟩
    simp [e0, e1, e5, h, mixed_len, w0, w1, w4, putA, TJob.encO, TJob.inn]
    refine call_mid2 (f := 15) (B := x.Request.Cookies.wood 2 TPair.enc noInn) (markPair_con (s := x.Request.Cookies) (by omega) (k := j + 1 + 1 + szL cPair x.Request.Query.list) ⟨by omega, by omega⟩ _) (Views.refl _ _) fun r B' c' hc ⟨q1, q2⟩ => ?_
    subst q1; subst q2
    refine ⟨flat_marks (enc := TPair.enc) (w := 2) mkPair cPair _ x.Request.Cookies, .int, fun o ho => flat_free TPair.flat _ _ o ho _, ?_⟩
    simp [e0, e1, e5, h, mixed_len, w0, w1, w4, putA, TJob.encO, TJob.inn]
    refine call_fn0 (mtext_fn (by omega)) .str fun _ _ => ?_
    simp [e0, e1, e5, h, mixed_len, w0, w1, w4, putA, TJob.encO, TJob.inn]
    refine hN _ _ _ _ h (List.Sublist.refl _) ⟨by simp [upd, e0], ?_, by simp [upd]; exact step64 (by unfold mx; omega) h, ?_⟩
    · simp [upd, w0, w1, w4, hst]; omega
    · rw [hfl', ← hs, List.map_set, mkJob_encO]
      simp [mkJob, TJob.inn]
  · have h1 : i = l.length := by omega
    subst h1
    refine fin_all ⟨?_, ?_⟩
    · rw [← hjj]; simp
    · rw [mixed_all]; rfl
theorem markJob_con {s : SL TJob} (hz : szL cJob s.list ≤ 16777216) {k : Int} (hk : 0 ≤ k ∧ k ≤ 549755813888) (c : Nat) :
    Con Tryd.prog 103 [s.ref 5, .int .i64 k] (s.wood 5 TJob.encO TJob.inn) c fun r H' _ => r = .int .i64 (k + szL cJob s.list) ∧ H' = (s.marks mkJob cJob k).wood 5 TJob.encO TJob.inn := by
  cases s with
  | nil =>
    have := markJob_nil k c
    simpa [SL.ref, SL.wood, SL.marks, szL] using this
  | mk t l =>
    have := markJob_con1 (l := l) hz hk t c
    exact this
def TWorker.encO (s : TWorker) : List AV := [.int .i64 s.State, .int .i64 s.Job.Id, .str s.Job.Request.Path, s.Job.Request.Query.ref 2, s.Job.Request.Cookies.ref 2, .str s.Job.Session, .str s.Data, s.Files.ref 3, .int .i64 s.Served]
def TWorker.inn (s : TWorker) : List AObj := s.Job.Request.Query.wood 2 TPair.enc noInn ++ (s.Job.Request.Cookies.wood 2 TPair.enc noInn ++ (s.Files.wood 3 TFile.enc noInn))
@[simp] theorem TWorker.lenO (s : TWorker) : s.encO.length = 9 := (rfl)
@[simp] theorem TWorker.allO (s : TWorker) : s.encO.take 9 = s.encO := (rfl)
@[simp] theorem TWorker.o0 (s : TWorker) (K : AV → Prop) : getW s.encO 0 K = K (.int .i64 s.State) := by simp [TWorker.encO]
@[simp] theorem TWorker.o1 (s : TWorker) (K : AV → Prop) : getW s.encO 1 K = K (.int .i64 s.Job.Id) := by simp [TWorker.encO]
@[simp] theorem TWorker.o2 (s : TWorker) (K : AV → Prop) : getW s.encO 2 K = K (.str s.Job.Request.Path) := by simp [TWorker.encO]
@[simp] theorem TWorker.o3 (s : TWorker) (K : AV → Prop) : getW s.encO 3 K = K (s.Job.Request.Query.ref 2) := by simp [TWorker.encO]
@[simp] theorem TWorker.o4 (s : TWorker) (K : AV → Prop) : getW s.encO 4 K = K (s.Job.Request.Cookies.ref 2) := by simp [TWorker.encO]
@[simp] theorem TWorker.o5 (s : TWorker) (K : AV → Prop) : getW s.encO 5 K = K (.str s.Job.Session) := by simp [TWorker.encO]
@[simp] theorem TWorker.o6 (s : TWorker) (K : AV → Prop) : getW s.encO 6 K = K (.str s.Data) := by simp [TWorker.encO]
@[simp] theorem TWorker.o7 (s : TWorker) (K : AV → Prop) : getW s.encO 7 K = K (s.Files.ref 3) := by simp [TWorker.encO]
@[simp] theorem TWorker.o8 (s : TWorker) (K : AV → Prop) : getW s.encO 8 K = K (.int .i64 s.Served) := by simp [TWorker.encO]
theorem TWorker.freeO : ∀ (x : TWorker) a, a ∈ x.encO → Free a := fun x a ha => by
  simp [TWorker.encO] at ha
  rcases ha with rfl | rfl | rfl | rfl | rfl | rfl | rfl | rfl | rfl
  · exact free_int _ _
  · exact free_int _ _
  · exact free_str _
  · exact free_ref _ _
  · exact free_ref _ _
  · exact free_str _
  · exact free_str _
  · exact free_ref _ _
  · exact free_int _ _
theorem TWorker.freeI : ∀ (x : TWorker) o, o ∈ x.inn → ∀ T, AvRows T o := fun x o ho => by
  simp only [TWorker.inn, List.mem_append] at ho
  rcases ho with ho | ho | ho
  · exact flat_free TPair.flat _ _ o ho
  · exact flat_free TPair.flat _ _ o ho
  · exact flat_free TFile.flat _ _ o ho
theorem TWorker.viewO {S : List AObj} (x : TWorker) (h : ∀ o, o ∈ x.inn → o ∈ S) : ∀ (j : Nat) (a a' : AV), x.encO[j]? = some a → x.enc[j]? = some a' → View S a a' := fun j a a' h1 h2 => by
  match j, h1, h2 with
  | 0, h1, h2 => simp [TWorker.encO] at h1; simp [TWorker.enc] at h2; subst h1; subst h2; exact .refl _
  | 1, h1, h2 => simp [TWorker.encO] at h1; simp [TWorker.enc] at h2; subst h1; subst h2; exact .refl _
  | 2, h1, h2 => simp [TWorker.encO] at h1; simp [TWorker.enc] at h2; subst h1; subst h2; exact .refl _
  | 3, h1, h2 => simp [TWorker.encO] at h1; simp [TWorker.enc] at h2; subst h1; subst h2; exact view_flat (fun o ho => h o (by simp [TWorker.inn, ho])) TPair.flat.cells
  | 4, h1, h2 => simp [TWorker.encO] at h1; simp [TWorker.enc] at h2; subst h1; subst h2; exact view_flat (fun o ho => h o (by simp [TWorker.inn, ho])) TPair.flat.cells
  | 5, h1, h2 => simp [TWorker.encO] at h1; simp [TWorker.enc] at h2; subst h1; subst h2; exact .refl _
  | 6, h1, h2 => simp [TWorker.encO] at h1; simp [TWorker.enc] at h2; subst h1; subst h2; exact .refl _
  | 7, h1, h2 => simp [TWorker.encO] at h1; simp [TWorker.enc] at h2; subst h1; subst h2; exact view_flat (fun o ho => h o (by simp [TWorker.inn, ho])) TFile.flat.cells
  | 8, h1, h2 => simp [TWorker.encO] at h1; simp [TWorker.enc] at h2; subst h1; subst h2; exact .refl _
  | j + 9, h1, h2 => simp [TWorker.encO] at h1
theorem view_OWorker {S : List AObj} {s : SL TWorker} (hs : ∀ o, o ∈ s.wood 9 TWorker.encO TWorker.inn → o ∈ S) : View S (s.ref 9) (s.av 9 TWorker.enc) :=
  view_wood hs (fun x => TWorker.cells x) (fun _ => rfl) fun x h => TWorker.viewO x h
theorem view_AWorker {S : List AObj} {s : TWorker} (hs : ∀ o, o ∈ s.inn → o ∈ S) : View S (.agg s.encO) (.agg s.enc) :=
  .agg rfl (fun j a ha => TWorker.cells s a (List.mem_of_getElem? ha)) (TWorker.viewO s hs)
def mkWorker (k : Int) (x : TWorker) : TWorker := ⟨k, ⟨k + 1, ⟨mtext (k + 1 + 1), x.Job.Request.Query.marks mkPair cPair (k + 1 + 1 + 1), x.Job.Request.Cookies.marks mkPair cPair (k + 1 + 1 + 1 + szL cPair x.Job.Request.Query.list)⟩, mtext (k + 1 + 1 + 1 + szL cPair x.Job.Request.Query.list + szL cPair x.Job.Request.Cookies.list)⟩, mtext (k + 1 + 1 + 1 + szL cPair x.Job.Request.Query.list + szL cPair x.Job.Request.Cookies.list + 1), x.Files.marks mkFile cFile (k + 1 + 1 + 1 + szL cPair x.Job.Request.Query.list + szL cPair x.Job.Request.Cookies.list + 1 + 1), k + 1 + 1 + 1 + szL cPair x.Job.Request.Query.list + szL cPair x.Job.Request.Cookies.list + 1 + 1 + szL cFile x.Files.list⟩
def cWorker (x : TWorker) : Nat := 6 + szL cPair x.Job.Request.Query.list + szL cPair x.Job.Request.Cookies.list + szL cFile x.Files.list
theorem markWorker_nil (k : Int) : Fnc Tryd.prog 104 [.nsl, .int .i64 k] (.int .i64 k) := by
  refine fn_of c104 (by simp [F104]) fun c => ?_
  unfold F104
  simp
  refine loop_drop 0 (fun i e H c' => e 0 = .nsl ∧ e 1 = .int .i64 k ∧ e 5 = .int .i64 0 ∧ H = []) ⟨rfl, rfl, rfl, rfl⟩ ?_
  intro i e H c hi ⟨e0, e1, e5, hH⟩ N hN
  subst hH
  simp [e0, e1, e5]
  exact fin_plain ⟨rfl, rfl⟩
theorem szL_cWorker (l : List TWorker) : l.length ≤ szL cWorker l := by
  induction l with
  | nil => simp
  | cons x l ih => simp [szL, cWorker] at ih ⊢; omega
theorem mkWorker_encO (k : Int) (x : TWorker) : (mkWorker k x).encO = [.int .i64 (k), .int .i64 (k + 1), .str (mtext (k + 1 + 1)), x.Job.Request.Query.ref 2, x.Job.Request.Cookies.ref 2, .str (mtext (k + 1 + 1 + 1 + szL cPair x.Job.Request.Query.list + szL cPair x.Job.Request.Cookies.list)), .str (mtext (k + 1 + 1 + 1 + szL cPair x.Job.Request.Query.list + szL cPair x.Job.Request.Cookies.list + 1)), x.Files.ref 3, .int .i64 (k + 1 + 1 + 1 + szL cPair x.Job.Request.Query.list + szL cPair x.Job.Request.Cookies.list + 1 + 1 + szL cFile x.Files.list)] := by
  simp [mkWorker, TWorker.encO, SL.marks_ref]
theorem mkWorker_tags (k : Int) (x : TWorker) : tags (mkWorker k x).inn = tags x.inn := by
  have eT : ∀ X Y : List AObj, tags (X ++ Y) = tags X ++ tags Y := fun X Y => by simp [tags]
  simp only [TWorker.inn, mkWorker, eT, flat_marks (enc := TPair.enc) (w := 2) mkPair cPair, flat_marks (enc := TFile.enc) (w := 3) mkFile cFile]
theorem markWorker_con1 {l : List TWorker} (hz : szL cWorker l ≤ 16777216) {k : Int} (hk : 0 ≤ k ∧ k ≤ 549755813888) (t c : Nat) :
    Con Tryd.prog 104 [.ref 0 t 9 l.length, .int .i64 k] (wood t 9 TWorker.encO TWorker.inn l) c fun r H' _ => r = .int .i64 (k + szL cWorker l) ∧ H' = wood t 9 TWorker.encO TWorker.inn (mks mkWorker cWorker k l) := by
  have hln := szL_cWorker l
  refine con_of c104 (by simp [F104]) ?_
  unfold F104
  simp
  refine loop_drop l.length (fun i e H c' => e 0 = .ref 0 t 9 l.length ∧ e 1 = .int .i64 (k + szL cWorker (l.take i)) ∧ e 5 = .int .i64 i ∧ H = ⟨false, t, 9, (mixed mkWorker cWorker k l i).map TWorker.encO⟩ :: (mixed mkWorker cWorker k l i).flatMap TWorker.inn) ⟨rfl, by simp [szL], rfl, by rw [mixed_zero]; rfl⟩ ?_
  intro i e H c hi ⟨e0, e1, e5, hH⟩ N hN
  subst hH
  have hs := mixed_set mkWorker cWorker k l (i := i)
  have hst := fun h : i < l.length => szL_step cWorker l h
  have hle := szL_le cWorker l i
  have hle1 := szL_le cWorker l (i + 1)
  have hfl := fun h : i < l.length => mixed_flat (mk := mkWorker) (cnt := cWorker) (k := k) (inn := TWorker.inn) h
  have hfl' := fun h : i < l.length => mixed_flat' (mk := mkWorker) (cnt := cWorker) (k := k) (inn := TWorker.inn) h
  generalize hjj : k + (szL cWorker (l.take i) : Int) = j at e1 hs hfl'
  simp [e0, e1, e5]
  refine ⟨fun h => ?_, fun h => ?_⟩
  · have hs := hs h
    have hst := hst h
    have hg := mixed_get mkWorker cWorker k l h
    have hx := szL_mem (sz := cWorker) (List.getElem_mem h)
    rw [hfl h]
    have hfl' := hfl' h
    generalize l[i] = x at hs hst hg hx hfl'
    generalize (mks mkWorker cWorker k (l.take i)).flatMap TWorker.inn = PRE at hfl' ⊢
    generalize (l.drop (i + 1)).flatMap TWorker.inn = POST at hfl' ⊢
    simp only [cWorker] at hx hst
    have w0 : IntKind.i64.wrap (j + 1) = j + 1 := wrap64 (by omega) (by omega)
    have w1 : IntKind.i64.wrap (j + 1 + 1) = j + 1 + 1 := wrap64 (by omega) (by omega)
    have w2 : IntKind.i64.wrap (j + 1 + 1 + 1) = j + 1 + 1 + 1 := wrap64 (by omega) (by omega)
    have w5 : IntKind.i64.wrap (j + 1 + 1 + 1 + szL cPair x.Job.Request.Query.list + szL cPair x.Job.Request.Cookies.list + 1) = j + 1 + 1 + 1 + szL cPair x.Job.Request.Query.list + szL cPair x.Job.Request.Cookies.list + 1 := wrap64 (by omega) (by omega)
    have w6 : IntKind.i64.wrap (j + 1 + 1 + 1 + szL cPair x.Job.Request.Query.list + szL cPair x.Job.Request.Cookies.list + 1 + 1) = j + 1 + 1 + 1 + szL cPair x.Job.Request.Query.list + szL cPair x.Job.Request.Cookies.list + 1 + 1 := wrap64 (by omega) (by omega)
    have w8 : IntKind.i64.wrap (j + 1 + 1 + 1 + szL cPair x.Job.Request.Query.list + szL cPair x.Job.Request.Cookies.list + 1 + 1 + szL cFile x.Files.list + 1) = j + 1 + 1 + 1 + szL cPair x.Job.Request.Query.list + szL cPair x.Job.Request.Cookies.list + 1 + 1 + szL cFile x.Files.list + 1 := wrap64 (by omega) (by omega)
    refine ⟨h, x, hg, ?_⟩
    simp [e0, e1, e5, h, mixed_len, w0, w1, w2, w5, w6, w8, putA, TWorker.encO, TWorker.inn]
    refine call_fn0 (mtext_fn (by omega)) .str fun _ _ => ?_
    simp [e0, e1, e5, h, mixed_len, w0, w1, w2, w5, w6, w8, putA, TWorker.encO, TWorker.inn]
    refine call_midr (f := 15) (B := x.Job.Request.Query.wood 2 TPair.enc noInn) (markPair_con (s := x.Job.Request.Query) (by omega) (k := j + 1 + 1 + 1) ⟨by omega, by omega⟩ _) (Views.refl _ _) fun r B' c' hc ⟨q1, q2⟩ => ?_
    subst q1; subst q2
    refine ⟨flat_marks (enc := TPair.enc) (w := 2) mkPair cPair _ x.Job.Request.Query, .int, fun o ho => flat_free TPair.flat _ _ o ho _, ?_⟩
    simp [e0, e1, e5, h, mixed_len, w0, w1, w2, w5, w6, w8, putA, TWorker.encO, TWorker.inn]
    refine call_mid2 (f := 15) (B := x.Job.Request.Cookies.wood 2 TPair.enc noInn) (markPair_con (s := x.Job.Request.Cookies) (by omega) (k := j + 1 + 1 + 1 + szL cPair x.Job.Request.Query.list) ⟨by omega, by omega⟩ _) (Views.refl _ _) fun r B' c' hc ⟨q1, q2⟩ => ?_
    subst q1; subst q2
    refine ⟨flat_marks (enc := TPair.enc) (w := 2) mkPair cPair _ x.Job.Request.Cookies, .int, fun o ho => flat_free TPair.flat _ _ o ho _, ?_⟩
    simp [e0, e1, e5, h, mixed_len, w0, w1, w2, w5, w6, w8, putA, TWorker.encO, TWorker.inn]
    refine call_fn0 (mtext_fn (by omega)) .str fun _ _ => ?_
    simp [e0, e1, e5, h, mixed_len, w0, w1, w2, w5, w6, w8, putA, TWorker.encO, TWorker.inn]
    refine call_fn0 (mtext_fn (by omega)) .str fun _ _ => ?_
    simp [e0, e1, e5, h, mixed_len, w0, w1, w2, w5, w6, w8, putA, TWorker.encO, TWorker.inn]
    refine call_mid3 (f := 47) (B := x.Files.wood 3 TFile.enc noInn) (markFile_con (s := x.Files) (by omega) (k := j + 1 + 1 + 1 + szL cPair x.Job.Request.Query.list + szL cPair x.Job.Request.Cookies.list + 1 + 1) ⟨by omega, by omega⟩ _) (Views.refl _ _) fun r B' c' hc ⟨q1, q2⟩ => ?_
    subst q1; subst q2
    refine ⟨flat_marks (enc := TFile.enc) (w := 3) mkFile cFile _ x.Files, .int, fun o ho => flat_free TFile.flat _ _ o ho _, ?_⟩
    simp [e0, e1, e5, h, mixed_len, w0, w1, w2, w5, w6, w8, putA, TWorker.encO, TWorker.inn]
    refine hN _ _ _ _ h (List.Sublist.refl _) ⟨by simp [upd, e0], ?_, by simp [upd]; exact step64 (by unfold mx; omega) h, ?_⟩
    · simp [upd, w0, w1, w2, w5, w6, w8, hst]; omega
    · rw [hfl', ← hs, List.map_set, mkWorker_encO]
      simp [mkWorker, TWorker.inn]
  · have h1 : i = l.length := by omega
    subst h1
    refine fin_all ⟨?_, ?_⟩
    · rw [← hjj]; simp
    · rw [mixed_all]; rfl
theorem markWorker_con {s : SL TWorker} (hz : szL cWorker s.list ≤ 16777216) {k : Int} (hk : 0 ≤ k ∧ k ≤ 549755813888) (c : Nat) :
    Con Tryd.prog 104 [s.ref 9, .int .i64 k] (s.wood 9 TWorker.encO TWorker.inn) c fun r H' _ => r = .int .i64 (k + szL cWorker s.list) ∧ H' = (s.marks mkWorker cWorker k).wood 9 TWorker.encO TWorker.inn := by
  cases s with
  | nil =>
    have := markWorker_nil k c
    simpa [SL.ref, SL.wood, SL.marks, szL] using this
  | mk t l =>
    have := markWorker_con1 (l := l) hz hk t c
    exact this
def TAnswer.encO (s : TAnswer) : List AV := [.int .i64 s.Id, .str s.Session, s.Files.ref 3, .str s.Request.Path, s.Request.Query.ref 2, s.Request.Cookies.ref 2, .str s.Before, .int .i64 s.Response.Code, s.Response.Headers.ref 2, .str s.Response.Body, .str s.After]
def TAnswer.inn (s : TAnswer) : List AObj := s.Files.wood 3 TFile.enc noInn ++ (s.Request.Query.wood 2 TPair.enc noInn ++ (s.Request.Cookies.wood 2 TPair.enc noInn ++ (s.Response.Headers.wood 2 THeader.enc noInn)))
@[simp] theorem TAnswer.lenO (s : TAnswer) : s.encO.length = 11 := (rfl)
@[simp] theorem TAnswer.allO (s : TAnswer) : s.encO.take 11 = s.encO := (rfl)
@[simp] theorem TAnswer.o0 (s : TAnswer) (K : AV → Prop) : getW s.encO 0 K = K (.int .i64 s.Id) := by simp [TAnswer.encO]
@[simp] theorem TAnswer.o1 (s : TAnswer) (K : AV → Prop) : getW s.encO 1 K = K (.str s.Session) := by simp [TAnswer.encO]
@[simp] theorem TAnswer.o2 (s : TAnswer) (K : AV → Prop) : getW s.encO 2 K = K (s.Files.ref 3) := by simp [TAnswer.encO]
@[simp] theorem TAnswer.o3 (s : TAnswer) (K : AV → Prop) : getW s.encO 3 K = K (.str s.Request.Path) := by simp [TAnswer.encO]
@[simp] theorem TAnswer.o4 (s : TAnswer) (K : AV → Prop) : getW s.encO 4 K = K (s.Request.Query.ref 2) := by simp [TAnswer.encO]
@[simp] theorem TAnswer.o5 (s : TAnswer) (K : AV → Prop) : getW s.encO 5 K = K (s.Request.Cookies.ref 2) := by simp [TAnswer.encO]
@[simp] theorem TAnswer.o6 (s : TAnswer) (K : AV → Prop) : getW s.encO 6 K = K (.str s.Before) := by simp [TAnswer.encO]
@[simp] theorem TAnswer.o7 (s : TAnswer) (K : AV → Prop) : getW s.encO 7 K = K (.int .i64 s.Response.Code) := by simp [TAnswer.encO]
@[simp] theorem TAnswer.o8 (s : TAnswer) (K : AV → Prop) : getW s.encO 8 K = K (s.Response.Headers.ref 2) := by simp [TAnswer.encO]
@[simp] theorem TAnswer.o9 (s : TAnswer) (K : AV → Prop) : getW s.encO 9 K = K (.str s.Response.Body) := by simp [TAnswer.encO]
@[simp] theorem TAnswer.o10 (s : TAnswer) (K : AV → Prop) : getW s.encO 10 K = K (.str s.After) := by simp [TAnswer.encO]
theorem TAnswer.freeO : ∀ (x : TAnswer) a, a ∈ x.encO → Free a := fun x a ha => by
  simp [TAnswer.encO] at ha
  rcases ha with rfl | rfl | rfl | rfl | rfl | rfl | rfl | rfl | rfl | rfl | rfl
  · exact free_int _ _
  · exact free_str _
  · exact free_ref _ _
  · exact free_str _
  · exact free_ref _ _
  · exact free_ref _ _
  · exact free_str _
  · exact free_int _ _
  · exact free_ref _ _
  · exact free_str _
  · exact free_str _
theorem TAnswer.freeI : ∀ (x : TAnswer) o, o ∈ x.inn → ∀ T, AvRows T o := fun x o ho => by
  simp only [TAnswer.inn, List.mem_append] at ho
  rcases ho with ho | ho | ho | ho
  · exact flat_free TFile.flat _ _ o ho
  · exact flat_free TPair.flat _ _ o ho
  · exact flat_free TPair.flat _ _ o ho
  · exact flat_free THeader.flat _ _ o ho
theorem TAnswer.viewO {S : List AObj} (x : TAnswer) (h : ∀ o, o ∈ x.inn → o ∈ S) : ∀ (j : Nat) (a a' : AV), x.encO[j]? = some a → x.enc[j]? = some a' → View S a a' := fun j a a' h1 h2 => by
  match j, h1, h2 with
  | 0, h1, h2 => simp [TAnswer.encO] at h1; simp [TAnswer.enc] at h2; subst h1; subst h2; exact .refl _
  | 1, h1, h2 => simp [TAnswer.encO] at h1; simp [TAnswer.enc] at h2; subst h1; subst h2; exact .refl _
  | 2, h1, h2 => simp [TAnswer.encO] at h1; simp [TAnswer.enc] at h2; subst h1; subst h2; exact view_flat (fun o ho => h o (by simp [TAnswer.inn, ho])) TFile.flat.cells
  | 3, h1, h2 => simp [TAnswer.encO] at h1; simp [TAnswer.enc] at h2; subst h1; subst h2; exact .refl _
  | 4, h1, h2 => simp [TAnswer.encO] at h1; simp [TAnswer.enc] at h2; subst h1; subst h2; exact view_flat (fun o ho => h o (by simp [TAnswer.inn, ho])) TPair.flat.cells
  | 5, h1, h2 => simp [TAnswer.encO] at h1; simp [TAnswer.enc] at h2; subst h1; subst h2; exact view_flat (fun o ho => h o (by simp [TAnswer.inn, ho])) TPair.flat.cells
  | 6, h1, h2 => simp [TAnswer.encO] at h1; simp [TAnswer.enc] at h2; subst h1; subst h2; exact .refl _
  | 7, h1, h2 => simp [TAnswer.encO] at h1; simp [TAnswer.enc] at h2; subst h1; subst h2; exact .refl _
  | 8, h1, h2 => simp [TAnswer.encO] at h1; simp [TAnswer.enc] at h2; subst h1; subst h2; exact view_flat (fun o ho => h o (by simp [TAnswer.inn, ho])) THeader.flat.cells
  | 9, h1, h2 => simp [TAnswer.encO] at h1; simp [TAnswer.enc] at h2; subst h1; subst h2; exact .refl _
  | 10, h1, h2 => simp [TAnswer.encO] at h1; simp [TAnswer.enc] at h2; subst h1; subst h2; exact .refl _
  | j + 11, h1, h2 => simp [TAnswer.encO] at h1
theorem view_OAnswer {S : List AObj} {s : SL TAnswer} (hs : ∀ o, o ∈ s.wood 11 TAnswer.encO TAnswer.inn → o ∈ S) : View S (s.ref 11) (s.av 11 TAnswer.enc) :=
  view_wood hs (fun x => TAnswer.cells x) (fun _ => rfl) fun x h => TAnswer.viewO x h
theorem view_AAnswer {S : List AObj} {s : TAnswer} (hs : ∀ o, o ∈ s.inn → o ∈ S) : View S (.agg s.encO) (.agg s.enc) :=
  .agg rfl (fun j a ha => TAnswer.cells s a (List.mem_of_getElem? ha)) (TAnswer.viewO s hs)
def mkAnswer (k : Int) (x : TAnswer) : TAnswer := ⟨k, mtext (k + 1), x.Files.marks mkFile cFile (k + 1 + 1), ⟨mtext (k + 1 + 1 + szL cFile x.Files.list), x.Request.Query.marks mkPair cPair (k + 1 + 1 + szL cFile x.Files.list + 1), x.Request.Cookies.marks mkPair cPair (k + 1 + 1 + szL cFile x.Files.list + 1 + szL cPair x.Request.Query.list)⟩, mtext (k + 1 + 1 + szL cFile x.Files.list + 1 + szL cPair x.Request.Query.list + szL cPair x.Request.Cookies.list), ⟨k + 1 + 1 + szL cFile x.Files.list + 1 + szL cPair x.Request.Query.list + szL cPair x.Request.Cookies.list + 1, x.Response.Headers.marks mkHeader cHeader (k + 1 + 1 + szL cFile x.Files.list + 1 + szL cPair x.Request.Query.list + szL cPair x.Request.Cookies.list + 1 + 1), mtext (k + 1 + 1 + szL cFile x.Files.list + 1 + szL cPair x.Request.Query.list + szL cPair x.Request.Cookies.list + 1 + 1 + szL cHeader x.Response.Headers.list)⟩, mtext (k + 1 + 1 + szL cFile x.Files.list + 1 + szL cPair x.Request.Query.list + szL cPair x.Request.Cookies.list + 1 + 1 + szL cHeader x.Response.Headers.list + 1)⟩
def cAnswer (x : TAnswer) : Nat := 7 + szL cFile x.Files.list + szL cPair x.Request.Query.list + szL cPair x.Request.Cookies.list + szL cHeader x.Response.Headers.list
theorem markAnswer_nil (k : Int) : Fnc Tryd.prog 105 [.nsl, .int .i64 k] (.int .i64 k) := by
  refine fn_of c105 (by simp [F105]) fun c => ?_
  unfold F105
  simp
  refine loop_drop 0 (fun i e H c' => e 0 = .nsl ∧ e 1 = .int .i64 k ∧ e 5 = .int .i64 0 ∧ H = []) ⟨rfl, rfl, rfl, rfl⟩ ?_
  intro i e H c hi ⟨e0, e1, e5, hH⟩ N hN
  subst hH
  simp [e0, e1, e5]
  exact fin_plain ⟨rfl, rfl⟩
theorem szL_cAnswer (l : List TAnswer) : l.length ≤ szL cAnswer l := by
  induction l with
  | nil => simp
  | cons x l ih => simp [szL, cAnswer] at ih ⊢; omega
theorem mkAnswer_encO (k : Int) (x : TAnswer) : (mkAnswer k x).encO = [.int .i64 (k), .str (mtext (k + 1)), x.Files.ref 3, .str (mtext (k + 1 + 1 + szL cFile x.Files.list)), x.Request.Query.ref 2, x.Request.Cookies.ref 2, .str (mtext (k + 1 + 1 + szL cFile x.Files.list + 1 + szL cPair x.Request.Query.list + szL cPair x.Request.Cookies.list)), .int .i64 (k + 1 + 1 + szL cFile x.Files.list + 1 + szL cPair x.Request.Query.list + szL cPair x.Request.Cookies.list + 1), x.Response.Headers.ref 2, .str (mtext (k + 1 + 1 + szL cFile x.Files.list + 1 + szL cPair x.Request.Query.list + szL cPair x.Request.Cookies.list + 1 + 1 + szL cHeader x.Response.Headers.list)), .str (mtext (k + 1 + 1 + szL cFile x.Files.list + 1 + szL cPair x.Request.Query.list + szL cPair x.Request.Cookies.list + 1 + 1 + szL cHeader x.Response.Headers.list + 1))] := by
  simp [mkAnswer, TAnswer.encO, SL.marks_ref]
theorem mkAnswer_tags (k : Int) (x : TAnswer) : tags (mkAnswer k x).inn = tags x.inn := by
  have eT : ∀ X Y : List AObj, tags (X ++ Y) = tags X ++ tags Y := fun X Y => by simp [tags]
  simp only [TAnswer.inn, mkAnswer, eT, flat_marks (enc := TFile.enc) (w := 3) mkFile cFile, flat_marks (enc := TPair.enc) (w := 2) mkPair cPair, flat_marks (enc := THeader.enc) (w := 2) mkHeader cHeader]
theorem markAnswer_con1 {l : List TAnswer} (hz : szL cAnswer l ≤ 16777216) {k : Int} (hk : 0 ≤ k ∧ k ≤ 549755813888) (t c : Nat) :
    Con Tryd.prog 105 [.ref 0 t 11 l.length, .int .i64 k] (wood t 11 TAnswer.encO TAnswer.inn l) c fun r H' _ => r = .int .i64 (k + szL cAnswer l) ∧ H' = wood t 11 TAnswer.encO TAnswer.inn (mks mkAnswer cAnswer k l) := by
  have hln := szL_cAnswer l
  refine con_of c105 (by simp [F105]) ?_
  unfold F105
  simp
  refine loop_drop l.length (fun i e H c' => e 0 = .ref 0 t 11 l.length ∧ e 1 = .int .i64 (k + szL cAnswer (l.take i)) ∧ e 5 = .int .i64 i ∧ H = ⟨false, t, 11, (mixed mkAnswer cAnswer k l i).map TAnswer.encO⟩ :: (mixed mkAnswer cAnswer k l i).flatMap TAnswer.inn) ⟨rfl, by simp [szL], rfl, by rw [mixed_zero]; rfl⟩ ?_
  intro i e H c hi ⟨e0, e1, e5, hH⟩ N hN
  subst hH
  have hs := mixed_set mkAnswer cAnswer k l (i := i)
  have hst := fun h : i < l.length => szL_step cAnswer l h
  have hle := szL_le cAnswer l i
  have hle1 := szL_le cAnswer l (i + 1)
  have hfl := fun h : i < l.length => mixed_flat (mk := mkAnswer) (cnt := cAnswer) (k := k) (inn := TAnswer.inn) h
  have hfl' := fun h : i < l.length => mixed_flat' (mk := mkAnswer) (cnt := cAnswer) (k := k) (inn := TAnswer.inn) h
  generalize hjj : k + (szL cAnswer (l.take i) : Int) = j at e1 hs hfl'
  simp [e0, e1, e5]
  refine ⟨fun h => ?_, fun h => ?_⟩
  · have hs := hs h
    have hst := hst h
    have hg := mixed_get mkAnswer cAnswer k l h
    have hx := szL_mem (sz := cAnswer) (List.getElem_mem h)
    rw [hfl h]
    have hfl' := hfl' h
    generalize l[i] = x at hs hst hg hx hfl'
    generalize (mks mkAnswer cAnswer k (l.take i)).flatMap TAnswer.inn = PRE at hfl' ⊢
    generalize (l.drop (i + 1)).flatMap TAnswer.inn = POST at hfl' ⊢
    simp only [cAnswer] at hx hst
    have w0 : IntKind.i64.wrap (j + 1) = j + 1 := wrap64 (by omega) (by omega)
    have w1 : IntKind.i64.wrap (j + 1 + 1) = j + 1 + 1 := wrap64 (by omega) (by omega)
    have w3 : IntKind.i64.wrap (j + 1 + 1 + szL cFile x.Files.list + 1) = j + 1 + 1 + szL cFile x.Files.list + 1 := wrap64 (by omega) (by omega)
    have w6 : IntKind.i64.wrap (j + 1 + 1 + szL cFile x.Files.list + 1 + szL cPair x.Request.Query.list + szL cPair x.Request.Cookies.list + 1) = j + 1 + 1 + szL cFile x.Files.list + 1 + szL cPair x.Request.Query.list + szL cPair x.Request.Cookies.list + 1 := wrap64 (by omega) (by omega)
    have w7 : IntKind.i64.wrap (j + 1 + 1 + szL cFile x.Files.list + 1 + szL cPair x.Request.Query.list + szL cPair x.Request.Cookies.list + 1 + 1) = j + 1 + 1 + szL cFile x.Files.list + 1 + szL cPair x.Request.Query.list + szL cPair x.Request.Cookies.list + 1 + 1 := wrap64 (by omega) (by omega)
    have w9 : IntKind.i64.wrap (j + 1 + 1 + szL cFile x.Files.list + 1 + szL cPair x.Request.Query.list + szL cPair x.Request.Cookies.list + 1 + 1 + szL cHeader x.Response.Headers.list + 1) = j + 1 + 1 + szL cFile x.Files.list + 1 + szL cPair x.Request.Query.list + szL cPair x.Request.Cookies.list + 1 + 1 + szL cHeader x.Response.Headers.list + 1 := wrap64 (by omega) (by omega)
    have w10 : IntKind.i64.wrap (j + 1 + 1 + szL cFile x.Files.list + 1 + szL cPair x.Request.Query.list + szL cPair x.Request.Cookies.list + 1 + 1 + szL cHeader x.Response.Headers.list + 1 + 1) = j + 1 + 1 + szL cFile x.Files.list + 1 + szL cPair x.Request.Query.list + szL cPair x.Request.Cookies.list + 1 + 1 + szL cHeader x.Response.Headers.list + 1 + 1 := wrap64 (by omega) (by omega)
    refine ⟨h, x, hg, ?_⟩
    simp [e0, e1, e5, h, mixed_len, w0, w1, w3, w6, w7, w9, w10, putA, TAnswer.encO, TAnswer.inn]
    refine call_fn0 (mtext_fn (by omega)) .str fun _ _ => ?_
    simp [e0, e1, e5, h, mixed_len, w0, w1, w3, w6, w7, w9, w10, putA, TAnswer.encO, TAnswer.inn]
    refine call_midr (f := 47) (B := x.Files.wood 3 TFile.enc noInn) (markFile_con (s := x.Files) (by omega) (k := j + 1 + 1) ⟨by omega, by omega⟩ _) (Views.refl _ _) fun r B' c' hc ⟨q1, q2⟩ => ?_
    subst q1; subst q2
    refine ⟨flat_marks (enc := TFile.enc) (w := 3) mkFile cFile _ x.Files, .int, fun o ho => flat_free TFile.flat _ _ o ho _, ?_⟩
    simp [e0, e1, e5, h, mixed_len, w0, w1, w3, w6, w7, w9, w10, putA, TAnswer.encO, TAnswer.inn]
    refine call_fn0 (mtext_fn (by omega)) .str fun _ _ => ?_
    simp [e0, e1, e5, h, mixed_len, w0, w1, w3, w6, w7, w9, w10, putA, TAnswer.encO, TAnswer.inn]
    refine call_mid2 (f := 15) (B := x.Request.Query.wood 2 TPair.enc noInn) (markPair_con (s := x.Request.Query) (by omega) (k := j + 1 + 1 + szL cFile x.Files.list + 1) ⟨by omega, by omega⟩ _) (Views.refl _ _) fun r B' c' hc ⟨q1, q2⟩ => ?_
    subst q1; subst q2
    refine ⟨flat_marks (enc := TPair.enc) (w := 2) mkPair cPair _ x.Request.Query, .int, fun o ho => flat_free TPair.flat _ _ o ho _, ?_⟩
    simp [e0, e1, e5, h, mixed_len, w0, w1, w3, w6, w7, w9, w10, putA, TAnswer.encO, TAnswer.inn]
    refine call_mid3 (f := 15) (B := x.Request.Cookies.wood 2 TPair.enc noInn) (markPair_con (s := x.Request.Cookies) (by omega) (k := j + 1 + 1 + szL cFile x.Files.list + 1 + szL cPair x.Request.Query.list) ⟨by omega, by omega⟩ _) (Views.refl _ _) fun r B' c' hc ⟨q1, q2⟩ => ?_
    subst q1; subst q2
    refine ⟨flat_marks (enc := TPair.enc) (w := 2) mkPair cPair _ x.Request.Cookies, .int, fun o ho => flat_free TPair.flat _ _ o ho _, ?_⟩
    simp [e0, e1, e5, h, mixed_len, w0, w1, w3, w6, w7, w9, w10, putA, TAnswer.encO, TAnswer.inn]
    refine call_fn0 (mtext_fn (by omega)) .str fun _ _ => ?_
    simp [e0, e1, e5, h, mixed_len, w0, w1, w3, w6, w7, w9, w10, putA, TAnswer.encO, TAnswer.inn]
    refine call_mid4 (f := 89) (B := x.Response.Headers.wood 2 THeader.enc noInn) (markHeader_con (s := x.Response.Headers) (by omega) (k := j + 1 + 1 + szL cFile x.Files.list + 1 + szL cPair x.Request.Query.list + szL cPair x.Request.Cookies.list + 1 + 1) ⟨by omega, by omega⟩ _) (Views.refl _ _) fun r B' c' hc ⟨q1, q2⟩ => ?_
    subst q1; subst q2
    refine ⟨flat_marks (enc := THeader.enc) (w := 2) mkHeader cHeader _ x.Response.Headers, .int, fun o ho => flat_free THeader.flat _ _ o ho _, ?_⟩
    simp [e0, e1, e5, h, mixed_len, w0, w1, w3, w6, w7, w9, w10, putA, TAnswer.encO, TAnswer.inn]
    refine call_fn0 (mtext_fn (by omega)) .str fun _ _ => ?_
    simp [e0, e1, e5, h, mixed_len, w0, w1, w3, w6, w7, w9, w10, putA, TAnswer.encO, TAnswer.inn]
    refine call_fn0 (mtext_fn (by omega)) .str fun _ _ => ?_
    simp [e0, e1, e5, h, mixed_len, w0, w1, w3, w6, w7, w9, w10, putA, TAnswer.encO, TAnswer.inn]
    refine hN _ _ _ _ h (List.Sublist.refl _) ⟨by simp [upd, e0], ?_, by simp [upd]; exact step64 (by unfold mx; omega) h, ?_⟩
    · simp [upd, w0, w1, w3, w6, w7, w9, w10, hst]; omega
    · rw [hfl', ← hs, List.map_set, mkAnswer_encO]
      simp [mkAnswer, TAnswer.inn]
  · have h1 : i = l.length := by omega
    subst h1
    refine fin_all ⟨?_, ?_⟩
    · rw [← hjj]; simp
    · rw [mixed_all]; rfl
theorem markAnswer_con {s : SL TAnswer} (hz : szL cAnswer s.list ≤ 16777216) {k : Int} (hk : 0 ≤ k ∧ k ≤ 549755813888) (c : Nat) :
    Con Tryd.prog 105 [s.ref 11, .int .i64 k] (s.wood 11 TAnswer.encO TAnswer.inn) c fun r H' _ => r = .int .i64 (k + szL cAnswer s.list) ∧ H' = (s.marks mkAnswer cAnswer k).wood 11 TAnswer.encO TAnswer.inn := by
  cases s with
  | nil =>
    have := markAnswer_nil k c
    simpa [SL.ref, SL.wood, SL.marks, szL] using this
  | mk t l =>
    have := markAnswer_con1 (l := l) hz hk t c
    exact this
end A
end Go.Proofs.YtfcimcoanlgldaaDoor

/-
  Servers kept as0 objects: printed by a program (wip/tools/genobj.py). No condition.
-/

namespace Go.Proofs.YtfcimcoanlgldaaDoor
namespace A
set_option linter.unusedVariables false
set_option linter.unusedSimpArgs false
set_option maxRecDepth 100000

theorem view_OLine {S : List AObj} {s : SL TLine} (hs : ∀ o, o ∈ s.wood 4 TLine.encO TLine.inn → o ∈ S) : View S (s.ref 4) (s.av 4 TLine.enc) := view_line hs
def TServer.encO (s : TServer) : List AV := [s.Files.ref 3, s.Lines.ref 4, s.Sessions.ref 4, s.Queue.ref 5, s.Workers.ref 9, s.Done.ref 11, .int .i64 s.Next, .int .i64 s.Now]
def TServer.inn (s : TServer) : List AObj := s.Files.wood 3 TFile.enc noInn ++ (s.Lines.wood 4 TLine.encO TLine.inn ++ (s.Sessions.wood 4 TSession.enc noInn ++ (s.Queue.wood 5 TJob.encO TJob.inn ++ (s.Workers.wood 9 TWorker.encO TWorker.inn ++ (s.Done.wood 11 TAnswer.encO TAnswer.inn)))))
@[simp] theorem TServer.lenO (s : TServer) : s.encO.length = 8 := (rfl)
@[simp] theorem TServer.allO (s : TServer) : s.encO.take 8 = s.encO := (rfl)
@[simp] theorem TServer.o0 (s : TServer) (K : AV → Prop) : getW s.encO 0 K = K (s.Files.ref 3) := by simp [TServer.encO]
@[simp] theorem TServer.o1 (s : TServer) (K : AV → Prop) : getW s.encO 1 K = K (s.Lines.ref 4) := by simp [TServer.encO]
@[simp] theorem TServer.o2 (s : TServer) (K : AV → Prop) : getW s.encO 2 K = K (s.Sessions.ref 4) := by simp [TServer.encO]
@[simp] theorem TServer.o3 (s : TServer) (K : AV → Prop) : getW s.encO 3 K = K (s.Queue.ref 5) := by simp [TServer.encO]
@[simp] theorem TServer.o4 (s : TServer) (K : AV → Prop) : getW s.encO 4 K = K (s.Workers.ref 9) := by simp [TServer.encO]
@[simp] theorem TServer.o5 (s : TServer) (K : AV → Prop) : getW s.encO 5 K = K (s.Done.ref 11) := by simp [TServer.encO]
@[simp] theorem TServer.o6 (s : TServer) (K : AV → Prop) : getW s.encO 6 K = K (.int .i64 s.Next) := by simp [TServer.encO]
@[simp] theorem TServer.o7 (s : TServer) (K : AV → Prop) : getW s.encO 7 K = K (.int .i64 s.Now) := by simp [TServer.encO]
theorem TServer.freeO : ∀ (x : TServer) a, a ∈ x.encO → Free a := fun x a ha => by
  simp [TServer.encO] at ha
  rcases ha with rfl | rfl | rfl | rfl | rfl | rfl | rfl | rfl
  · exact free_ref _ _
  · exact free_ref _ _
  · exact free_ref _ _
  · exact free_ref _ _
  · exact free_ref _ _
  · exact free_ref _ _
  · exact free_int _ _
  · exact free_int _ _
theorem TServer.freeI : ∀ (x : TServer) o, o ∈ x.inn → ∀ T, AvRows T o := fun x o ho => by
  simp only [TServer.inn, List.mem_append] at ho
  rcases ho with ho | ho | ho | ho | ho | ho
  · exact flat_free TFile.flat _ _ o ho
  · exact free_wood TLine.freeO TLine.freeI _ o ho
  · exact flat_free TSession.flat _ _ o ho
  · exact free_wood TJob.freeO TJob.freeI _ o ho
  · exact free_wood TWorker.freeO TWorker.freeI _ o ho
  · exact free_wood TAnswer.freeO TAnswer.freeI _ o ho
theorem TServer.viewO {S : List AObj} (x : TServer) (h : ∀ o, o ∈ x.inn → o ∈ S) : ∀ (j : Nat) (a a' : AV), x.encO[j]? = some a → x.enc[j]? = some a' → View S a a' := fun j a a' h1 h2 => by
  match j, h1, h2 with
  | 0, h1, h2 => simp [TServer.encO] at h1; simp [TServer.enc] at h2; subst h1; subst h2; exact view_flat (fun o ho => h o (by simp [TServer.inn, ho])) TFile.flat.cells
  | 1, h1, h2 => simp [TServer.encO] at h1; simp [TServer.enc] at h2; subst h1; subst h2; exact view_OLine (fun o ho => h o (by simp [TServer.inn, ho]))
  | 2, h1, h2 => simp [TServer.encO] at h1; simp [TServer.enc] at h2; subst h1; subst h2; exact view_flat (fun o ho => h o (by simp [TServer.inn, ho])) TSession.flat.cells
  | 3, h1, h2 => simp [TServer.encO] at h1; simp [TServer.enc] at h2; subst h1; subst h2; exact view_OJob (fun o ho => h o (by simp [TServer.inn, ho]))
  | 4, h1, h2 => simp [TServer.encO] at h1; simp [TServer.enc] at h2; subst h1; subst h2; exact view_OWorker (fun o ho => h o (by simp [TServer.inn, ho]))
  | 5, h1, h2 => simp [TServer.encO] at h1; simp [TServer.enc] at h2; subst h1; subst h2; exact view_OAnswer (fun o ho => h o (by simp [TServer.inn, ho]))
  | 6, h1, h2 => simp [TServer.encO] at h1; simp [TServer.enc] at h2; subst h1; subst h2; exact .refl _
  | 7, h1, h2 => simp [TServer.encO] at h1; simp [TServer.enc] at h2; subst h1; subst h2; exact .refl _
  | j + 8, h1, h2 => simp [TServer.encO] at h1
theorem view_OServer {S : List AObj} {s : SL TServer} (hs : ∀ o, o ∈ s.wood 8 TServer.encO TServer.inn → o ∈ S) : View S (s.ref 8) (s.av 8 TServer.enc) :=
  view_wood hs (fun x => TServer.cells x) (fun _ => rfl) fun x h => TServer.viewO x h
theorem view_AServer {S : List AObj} {s : TServer} (hs : ∀ o, o ∈ s.inn → o ∈ S) : View S (.agg s.encO) (.agg s.enc) :=
  .agg rfl (fun j a ha => TServer.cells s a (List.mem_of_getElem? ha)) (TServer.viewO s hs)
theorem mark_inA {α : Type} {P : Program} {f w : Nat} {encO : α → List AV} {inn : α → List AObj} {mk : Int → α → α} {cnt : α → Nat} {K : AV → List AObj → Nat → Prop} {A C : List AObj} {s : SL α} {k n : Int} {c : Nat}
    (hf : Con P f [s.ref w, .int .i64 k] (s.wood w encO inn) c fun r H' _ => r = .int .i64 n ∧ H' = (s.marks mk cnt k).wood w encO inn)
    (hi : ∀ k x, tags (inn (mk k x)) = tags (inn x)) (hO : ∀ x a, a ∈ encO x → Free a) (hI : ∀ x o, o ∈ inn x → ∀ T, AvRows T o) {H X : List AObj} {B : AObj} (hH : H = A ++ (s.wood w encO inn ++ C)) (hX : A ++ ((s.marks mk cnt k).wood w encO inn ++ C) = X ++ [B]) (kk : ∀ c', c ≤ c' → K (.int .i64 n) (X ++ [B]) c') :
    CallW P f [s.ref w, .int .i64 k] H c K := by
  rw [hH, ← List.append_assoc]
  exact mark_mid hf hi hO hI fun c' h => by rw [List.append_assoc, hX]; exact kk c' h
theorem marks_wood_len {α : Type} {w : Nat} {encO : α → List AV} {inn : α → List AObj} {mk : Int → α → α} {cnt : α → Nat} (hi : ∀ k x, tags (inn (mk k x)) = tags (inn x)) (k : Int) (s : SL α) : ((s.marks mk cnt k).wood w encO inn).length = (s.wood w encO inn).length := by
  have := congrArg List.length (tags_wood (w := w) (encO := encO) (cnt := cnt) hi k s)
  simpa [tags] using this
theorem getW_endN {α : Type} {X : List α} {B : α} {n : Nat} (h : X.length = n) (K : α → Prop) : getW (X ++ [B]) n K = K B := getW_of (by rw [List.getElem?_append_right (by omega)]; simp [h]) K
def mkServer (k : Int) (s : TServer) : TServer := { s with
  Files := s.Files.marks mkFile cFile k
  Lines := s.Lines.marks mkLine cLine (k + szL cFile s.Files.list)
  Sessions := s.Sessions.marks mkSession cSession (k + szL cFile s.Files.list + szL cLine s.Lines.list)
  Queue := s.Queue.marks mkJob cJob (k + szL cFile s.Files.list + szL cLine s.Lines.list + szL cSession s.Sessions.list)
  Workers := s.Workers.marks mkWorker cWorker (k + szL cFile s.Files.list + szL cLine s.Lines.list + szL cSession s.Sessions.list + szL cJob s.Queue.list)
  Done := s.Done.marks mkAnswer cAnswer (k + szL cFile s.Files.list + szL cLine s.Lines.list + szL cSession s.Sessions.list + szL cJob s.Queue.list + szL cWorker s.Workers.list) }
def cServer (s : TServer) : Nat := szL cFile s.Files.list + szL cLine s.Lines.list + szL cSession s.Sessions.list + szL cJob s.Queue.list + szL cWorker s.Workers.list + szL cAnswer s.Done.list

theorem markServer_con {s : TServer} (hz : szL cFile s.Files.list ≤ 8388608 ∧ szL cLine s.Lines.list ≤ 8388608 ∧ szL cSession s.Sessions.list ≤ 8388608 ∧ szL cJob s.Queue.list ≤ 8388608 ∧ szL cWorker s.Workers.list ≤ 8388608 ∧ szL cAnswer s.Done.list ≤ 8388608) (hw : ∀ x, x ∈ s.Lines.list → x.Words.list.length ≤ 1048576) {k : Int} (hk : 0 ≤ k ∧ k ≤ 1048576) (c : Nat) :
    Con Tryd.prog 48 [.agg s.encO, .int .i64 k] s.inn c fun r O _ => r = .int .i64 (k + cServer s) ∧ O = (mkServer k s).inn := by
  obtain ⟨z1, z2, z3, z4, z5, z6⟩ := hz
  refine con_of c48 (by simp [F48]) ?_
  unfold F48
  simp
  generalize hn : s.inn.length = n
  unfold TServer.inn at hn ⊢
  have hn0 := hn
  simp only [List.length_append] at hn
  have l0 := marks_wood_len (w := 3) (encO := TFile.enc) (inn := noInn) (mk := mkFile) (cnt := cFile) (fun _ _ => rfl) (k) s.Files
  have l1 := marks_wood_len (w := 4) (encO := TLine.encO) (inn := TLine.inn) (mk := mkLine) (cnt := cLine) mkLine_tags (k + szL cFile s.Files.list) s.Lines
  have l2 := marks_wood_len (w := 4) (encO := TSession.enc) (inn := noInn) (mk := mkSession) (cnt := cSession) (fun _ _ => rfl) (k + szL cFile s.Files.list + szL cLine s.Lines.list) s.Sessions
  have l3 := marks_wood_len (w := 5) (encO := TJob.encO) (inn := TJob.inn) (mk := mkJob) (cnt := cJob) mkJob_tags (k + szL cFile s.Files.list + szL cLine s.Lines.list + szL cSession s.Sessions.list) s.Queue
  have l4 := marks_wood_len (w := 9) (encO := TWorker.encO) (inn := TWorker.inn) (mk := mkWorker) (cnt := cWorker) mkWorker_tags (k + szL cFile s.Files.list + szL cLine s.Lines.list + szL cSession s.Sessions.list + szL cJob s.Queue.list) s.Workers
  have l5 := marks_wood_len (w := 11) (encO := TAnswer.encO) (inn := TAnswer.inn) (mk := mkAnswer) (cnt := cAnswer) mkAnswer_tags (k + szL cFile s.Files.list + szL cLine s.Lines.list + szL cSession s.Sessions.list + szL cJob s.Queue.list + szL cWorker s.Workers.list) s.Done
  obtain ⟨X0, hX0⟩ : ∃ X : List AObj, X = ((s.Files.marks mkFile cFile (k)).wood 3 TFile.enc noInn) ++ ((s.Lines.wood 4 TLine.encO TLine.inn) ++ ((s.Sessions.wood 4 TSession.enc noInn) ++ ((s.Queue.wood 5 TJob.encO TJob.inn) ++ ((s.Workers.wood 9 TWorker.encO TWorker.inn) ++ ((s.Done.wood 11 TAnswer.encO TAnswer.inn)))))) := ⟨_, rfl⟩
  have hl0 : X0.length = n := by rw [hX0]; simp only [List.length_append]; omega
  refine mark_inA (A := []) (C := (s.Lines.wood 4 TLine.encO TLine.inn) ++ ((s.Sessions.wood 4 TSession.enc noInn) ++ ((s.Queue.wood 5 TJob.encO TJob.inn) ++ ((s.Workers.wood 9 TWorker.encO TWorker.inn) ++ ((s.Done.wood 11 TAnswer.encO TAnswer.inn) ++ ([(⟨false, c, 8, [s.encO]⟩ : AObj)])))))) (markFile_con (s := s.Files) (by omega) (k := k) ⟨by omega, by omega⟩ _) (fun _ _ => rfl) (fun x a ha => (TFile.flat x a ha).2) (fun x o ho => by cases ho) (X := X0) (B := ⟨false, c, 8, [s.encO]⟩) (by simp) (by rw [hX0]; simp) fun c0 _ => ?_
  simp [getW_endN hl0]
  obtain ⟨X1, hX1⟩ : ∃ X : List AObj, X = ((s.Files.marks mkFile cFile (k)).wood 3 TFile.enc noInn) ++ (((s.Lines.marks mkLine cLine (k + szL cFile s.Files.list)).wood 4 TLine.encO TLine.inn) ++ ((s.Sessions.wood 4 TSession.enc noInn) ++ ((s.Queue.wood 5 TJob.encO TJob.inn) ++ ((s.Workers.wood 9 TWorker.encO TWorker.inn) ++ ((s.Done.wood 11 TAnswer.encO TAnswer.inn)))))) := ⟨_, rfl⟩
  have hl1 : X1.length = n := by rw [hX1]; simp only [List.length_append]; omega
  refine mark_inA (A := ((s.Files.marks mkFile cFile (k)).wood 3 TFile.enc noInn)) (C := (s.Sessions.wood 4 TSession.enc noInn) ++ ((s.Queue.wood 5 TJob.encO TJob.inn) ++ ((s.Workers.wood 9 TWorker.encO TWorker.inn) ++ ((s.Done.wood 11 TAnswer.encO TAnswer.inn) ++ ([(⟨false, c, 8, [s.encO]⟩ : AObj)]))))) (markLine_con (s := s.Lines) (by omega) hw (k := k + szL cFile s.Files.list) ⟨by omega, by omega⟩ _) mkLine_tags TLine.freeO TLine.freeI (X := X1) (B := ⟨false, c, 8, [s.encO]⟩) (by rw [hX0]; simp) (by rw [hX1]; simp) fun c1 _ => ?_
  simp [getW_endN hl1]
  obtain ⟨X2, hX2⟩ : ∃ X : List AObj, X = ((s.Files.marks mkFile cFile (k)).wood 3 TFile.enc noInn) ++ (((s.Lines.marks mkLine cLine (k + szL cFile s.Files.list)).wood 4 TLine.encO TLine.inn) ++ (((s.Sessions.marks mkSession cSession (k + szL cFile s.Files.list + szL cLine s.Lines.list)).wood 4 TSession.enc noInn) ++ ((s.Queue.wood 5 TJob.encO TJob.inn) ++ ((s.Workers.wood 9 TWorker.encO TWorker.inn) ++ ((s.Done.wood 11 TAnswer.encO TAnswer.inn)))))) := ⟨_, rfl⟩
  have hl2 : X2.length = n := by rw [hX2]; simp only [List.length_append]; omega
  refine mark_inA (A := ((s.Files.marks mkFile cFile (k)).wood 3 TFile.enc noInn) ++ (((s.Lines.marks mkLine cLine (k + szL cFile s.Files.list)).wood 4 TLine.encO TLine.inn))) (C := (s.Queue.wood 5 TJob.encO TJob.inn) ++ ((s.Workers.wood 9 TWorker.encO TWorker.inn) ++ ((s.Done.wood 11 TAnswer.encO TAnswer.inn) ++ ([(⟨false, c, 8, [s.encO]⟩ : AObj)])))) (markSession_con (s := s.Sessions) (by omega) (k := k + szL cFile s.Files.list + szL cLine s.Lines.list) ⟨by omega, by omega⟩ _) (fun _ _ => rfl) (fun x a ha => (TSession.flat x a ha).2) (fun x o ho => by cases ho) (X := X2) (B := ⟨false, c, 8, [s.encO]⟩) (by rw [hX1]; simp) (by rw [hX2]; simp) fun c2 _ => ?_
  simp [getW_endN hl2]
  obtain ⟨X3, hX3⟩ : ∃ X : List AObj, X = ((s.Files.marks mkFile cFile (k)).wood 3 TFile.enc noInn) ++ (((s.Lines.marks mkLine cLine (k + szL cFile s.Files.list)).wood 4 TLine.encO TLine.inn) ++ (((s.Sessions.marks mkSession cSession (k + szL cFile s.Files.list + szL cLine s.Lines.list)).wood 4 TSession.enc noInn) ++ (((s.Queue.marks mkJob cJob (k + szL cFile s.Files.list + szL cLine s.Lines.list + szL cSession s.Sessions.list)).wood 5 TJob.encO TJob.inn) ++ ((s.Workers.wood 9 TWorker.encO TWorker.inn) ++ ((s.Done.wood 11 TAnswer.encO TAnswer.inn)))))) := ⟨_, rfl⟩
  have hl3 : X3.length = n := by rw [hX3]; simp only [List.length_append]; omega
  refine mark_inA (A := ((s.Files.marks mkFile cFile (k)).wood 3 TFile.enc noInn) ++ (((s.Lines.marks mkLine cLine (k + szL cFile s.Files.list)).wood 4 TLine.encO TLine.inn) ++ (((s.Sessions.marks mkSession cSession (k + szL cFile s.Files.list + szL cLine s.Lines.list)).wood 4 TSession.enc noInn)))) (C := (s.Workers.wood 9 TWorker.encO TWorker.inn) ++ ((s.Done.wood 11 TAnswer.encO TAnswer.inn) ++ ([(⟨false, c, 8, [s.encO]⟩ : AObj)]))) (markJob_con (s := s.Queue) (by omega) (k := k + szL cFile s.Files.list + szL cLine s.Lines.list + szL cSession s.Sessions.list) ⟨by omega, by omega⟩ _) mkJob_tags TJob.freeO TJob.freeI (X := X3) (B := ⟨false, c, 8, [s.encO]⟩) (by rw [hX2]; simp) (by rw [hX3]; simp) fun c3 _ => ?_
  simp [getW_endN hl3]
  obtain ⟨X4, hX4⟩ : ∃ X : List AObj, X = ((s.Files.marks mkFile cFile (k)).wood 3 TFile.enc noInn) ++ (((s.Lines.marks mkLine cLine (k + szL cFile s.Files.list)).wood 4 TLine.encO TLine.inn) ++ (((s.Sessions.marks mkSession cSession (k + szL cFile s.Files.list + szL cLine s.Lines.list)).wood 4 TSession.enc noInn) ++ (((s.Queue.marks mkJob cJob (k + szL cFile s.Files.list + szL cLine s.Lines.list + szL cSession s.Sessions.list)).wood 5 TJob.encO TJob.inn) ++ (((s.Workers.marks mkWorker cWorker (k + szL cFile s.Files.list + szL cLine s.Lines.list + szL cSession s.Sessions.list + szL cJob s.Queue.list)).wood 9 TWorker.encO TWorker.inn) ++ ((s.Done.wood 11 TAnswer.encO TAnswer.inn)))))) := ⟨_, rfl⟩
  have hl4 : X4.length = n := by rw [hX4]; simp only [List.length_append]; omega
  refine mark_inA (A := ((s.Files.marks mkFile cFile (k)).wood 3 TFile.enc noInn) ++ (((s.Lines.marks mkLine cLine (k + szL cFile s.Files.list)).wood 4 TLine.encO TLine.inn) ++ (((s.Sessions.marks mkSession cSession (k + szL cFile s.Files.list + szL cLine s.Lines.list)).wood 4 TSession.enc noInn) ++ (((s.Queue.marks mkJob cJob (k + szL cFile s.Files.list + szL cLine s.Lines.list + szL cSession s.Sessions.list)).wood 5 TJob.encO TJob.inn))))) (C := (s.Done.wood 11 TAnswer.encO TAnswer.inn) ++ ([(⟨false, c, 8, [s.encO]⟩ : AObj)])) (markWorker_con (s := s.Workers) (by omega) (k := k + szL cFile s.Files.list + szL cLine s.Lines.list + szL cSession s.Sessions.list + szL cJob s.Queue.list) ⟨by omega, by omega⟩ _) mkWorker_tags TWorker.freeO TWorker.freeI (X := X4) (B := ⟨false, c, 8, [s.encO]⟩) (by rw [hX3]; simp) (by rw [hX4]; simp) fun c4 _ => ?_
  simp [getW_endN hl4]
  obtain ⟨X5, hX5⟩ : ∃ X : List AObj, X = ((s.Files.marks mkFile cFile (k)).wood 3 TFile.enc noInn) ++ (((s.Lines.marks mkLine cLine (k + szL cFile s.Files.list)).wood 4 TLine.encO TLine.inn) ++ (((s.Sessions.marks mkSession cSession (k + szL cFile s.Files.list + szL cLine s.Lines.list)).wood 4 TSession.enc noInn) ++ (((s.Queue.marks mkJob cJob (k + szL cFile s.Files.list + szL cLine s.Lines.list + szL cSession s.Sessions.list)).wood 5 TJob.encO TJob.inn) ++ (((s.Workers.marks mkWorker cWorker (k + szL cFile s.Files.list + szL cLine s.Lines.list + szL cSession s.Sessions.list + szL cJob s.Queue.list)).wood 9 TWorker.encO TWorker.inn) ++ (((s.Done.marks mkAnswer cAnswer (k + szL cFile s.Files.list + szL cLine s.Lines.list + szL cSession s.Sessions.list + szL cJob s.Queue.list + szL cWorker s.Workers.list)).wood 11 TAnswer.encO TAnswer.inn)))))) := ⟨_, rfl⟩
  have hl5 : X5.length = n := by rw [hX5]; simp only [List.length_append]; omega
  refine mark_inA (A := ((s.Files.marks mkFile cFile (k)).wood 3 TFile.enc noInn) ++ (((s.Lines.marks mkLine cLine (k + szL cFile s.Files.list)).wood 4 TLine.encO TLine.inn) ++ (((s.Sessions.marks mkSession cSession (k + szL cFile s.Files.list + szL cLine s.Lines.list)).wood 4 TSession.enc noInn) ++ (((s.Queue.marks mkJob cJob (k + szL cFile s.Files.list + szL cLine s.Lines.list + szL cSession s.Sessions.list)).wood 5 TJob.encO TJob.inn) ++ (((s.Workers.marks mkWorker cWorker (k + szL cFile s.Files.list + szL cLine s.Lines.list + szL cSession s.Sessions.list + szL cJob s.Queue.list)).wood 9 TWorker.encO TWorker.inn)))))) (C := [(⟨false, c, 8, [s.encO]⟩ : AObj)]) (markAnswer_con (s := s.Done) (by omega) (k := k + szL cFile s.Files.list + szL cLine s.Lines.list + szL cSession s.Sessions.list + szL cJob s.Queue.list + szL cWorker s.Workers.list) ⟨by omega, by omega⟩ _) mkAnswer_tags TAnswer.freeO TAnswer.freeI (X := X5) (B := ⟨false, c, 8, [s.encO]⟩) (by rw [hX4]; simp) (by rw [hX5]; simp) fun c5 _ => ?_
  simp [getW_endN hl5]
  refine fin_sub (Hk := X5) (List.sublist_append_left _ _) (.refl _) ⟨?_, ?_⟩
  · simp [cServer]; omega
  · rw [hX5]; rfl
end A
end Go.Proofs.YtfcimcoanlgldaaDoor

/-
  What reads the marks on a server's parts: printed by a program (wip/tools/genobj.py). No condition.
-/

namespace Go.Proofs.YtfcimcoanlgldaaDoor
namespace A
set_option linter.unusedVariables false
set_option linter.unusedSimpArgs false
set_option maxRecDepth 100000

theorem heldFile_nil (k : Int) : Fnc Tryd.prog 106 [.nsl, .int .i64 k] (.int .i64 k) := by
  refine fn_of c106 (by simp [F106]) fun c => ?_
  unfold F106
  simp
  refine loop_drop 0 (fun i e H c' => e 0 = .nsl ∧ e 1 = .int .i64 k ∧ e 5 = .int .i64 0 ∧ H = []) ⟨rfl, rfl, rfl, rfl⟩ ?_
  intro i e H c hi ⟨e0, e1, e5, hH⟩ N hN
  subst hH
  simp [e0, e1, e5]
  exact fin_plain ⟨rfl, rfl⟩
set_option maxHeartbeats 4000000 in
theorem heldFile_fn1 {l : List TFile} (hz : szL cFile l ≤ 16777216) {k : Int} (hk : 0 ≤ k ∧ k ≤ 1099511627776) (t : Nat) :
    Fnc Tryd.prog 106 [(SL.mk t (mks mkFile cFile k l)).av 3 TFile.enc, .int .i64 k] (.int .i64 (k + szL cFile l)) := by
  have hln := szL_cFile l
  refine fn_of c106 (by simp [F106]) fun c => ?_
  unfold F106
  simp
  have hlen := mks_len mkFile cFile k l
  refine loop_drop l.length (fun i e H c' => e 0 = (SL.mk t (mks mkFile cFile k l)).av 3 TFile.enc ∧ e 1 = .int .i64 (k + szL cFile (l.take i)) ∧ e 5 = .int .i64 i ∧ H = []) ⟨rfl, by simp [szL], rfl, rfl⟩ ?_
  intro i e H c hi ⟨e0, e1, e5, hH⟩ N hN
  subst hH
  have hg := fun h : i < l.length => mks_get mkFile cFile k l h
  have hst := fun h : i < l.length => szL_step cFile l h
  have hle := szL_le cFile l i
  have hle' := szL_le cFile l (i + 1)
  generalize hjj : k + (szL cFile (l.take i) : Int) = j at e1 hg
  simp [e0, e1, e5, hlen]
  refine ⟨fun h => ?_, fun h => ?_⟩
  · have hg := hg h
    have hst := hst h
    have hx := szL_mem (sz := cFile) (List.getElem_mem h)
    generalize l[i] = x at hg hst hx
    simp only [cFile] at hx hst
    have w0 : IntKind.i64.wrap (j + 1) = j + 1 := wrap64 (by omega) (by omega)
    have f0 : (mkFile j x).Path = mtext (j) := rfl
    have w1 : IntKind.i64.wrap (j + 1 + 1) = j + 1 + 1 := wrap64 (by omega) (by omega)
    have f1 : (mkFile j x).Source = mtext (j + 1) := rfl
    have w2 : IntKind.i64.wrap (j + 1 + 1 + 1) = j + 1 + 1 + 1 := wrap64 (by omega) (by omega)
    have f2 : (mkFile j x).Version = j + 1 + 1 := rfl
    refine ⟨_, hg, ?_⟩
    simp [e0, e1, e5, h, w0, w1, w2, f0, f1, f2]
    refine callF_fn0 (mtext_fn (by omega)) .str fun _ _ => ?_
    simp [e0, e1, e5, h, w0, w1, w2, f0, f1, f2]
    refine ⟨_, hg, ?_⟩
    simp [e0, e1, e5, h, w0, w1, w2, f0, f1, f2]
    refine callF_fn0 (mtext_fn (by omega)) .str fun _ _ => ?_
    simp [e0, e1, e5, h, w0, w1, w2, f0, f1, f2]
    refine ⟨_, hg, ?_⟩
    simp [e0, e1, e5, h, w0, w1, w2, f0, f1, f2]
    refine hN _ _ _ _ h (List.Sublist.refl _) ⟨by simp [upd, e0], ?_, by simp [upd]; exact step64 (by unfold mx; omega) h, rfl⟩
    simp [upd, w0, w1, w2, hst]; omega
  · have h1 : i = l.length := by omega
    subst h1
    refine fin_plain ⟨?_, rfl⟩
    rw [← hjj]; simp
theorem heldFile_fn {s : SL TFile} (hz : szL cFile s.list ≤ 16777216) {k : Int} (hk : 0 ≤ k ∧ k ≤ 1099511627776) :
    Fnc Tryd.prog 106 [(s.marks mkFile cFile k).av 3 TFile.enc, .int .i64 k] (.int .i64 (k + szL cFile s.list)) := by
  cases s with
  | nil =>
    have := heldFile_nil k
    simpa [SL.av, SL.marks, szL] using this
  | mk t l => exact heldFile_fn1 (l := l) hz hk t
theorem heldSession_nil (k : Int) : Fnc Tryd.prog 108 [.nsl, .int .i64 k] (.int .i64 k) := by
  refine fn_of c108 (by simp [F108]) fun c => ?_
  unfold F108
  simp
  refine loop_drop 0 (fun i e H c' => e 0 = .nsl ∧ e 1 = .int .i64 k ∧ e 5 = .int .i64 0 ∧ H = []) ⟨rfl, rfl, rfl, rfl⟩ ?_
  intro i e H c hi ⟨e0, e1, e5, hH⟩ N hN
  subst hH
  simp [e0, e1, e5]
  exact fin_plain ⟨rfl, rfl⟩
set_option maxHeartbeats 4000000 in
theorem heldSession_fn1 {l : List TSession} (hz : szL cSession l ≤ 16777216) {k : Int} (hk : 0 ≤ k ∧ k ≤ 1099511627776) (t : Nat) :
    Fnc Tryd.prog 108 [(SL.mk t (mks mkSession cSession k l)).av 4 TSession.enc, .int .i64 k] (.int .i64 (k + szL cSession l)) := by
  have hln := szL_cSession l
  refine fn_of c108 (by simp [F108]) fun c => ?_
  unfold F108
  simp
  have hlen := mks_len mkSession cSession k l
  refine loop_drop l.length (fun i e H c' => e 0 = (SL.mk t (mks mkSession cSession k l)).av 4 TSession.enc ∧ e 1 = .int .i64 (k + szL cSession (l.take i)) ∧ e 5 = .int .i64 i ∧ H = []) ⟨rfl, by simp [szL], rfl, rfl⟩ ?_
  intro i e H c hi ⟨e0, e1, e5, hH⟩ N hN
  subst hH
  have hg := fun h : i < l.length => mks_get mkSession cSession k l h
  have hst := fun h : i < l.length => szL_step cSession l h
  have hle := szL_le cSession l i
  have hle' := szL_le cSession l (i + 1)
  generalize hjj : k + (szL cSession (l.take i) : Int) = j at e1 hg
  simp [e0, e1, e5, hlen]
  refine ⟨fun h => ?_, fun h => ?_⟩
  · have hg := hg h
    have hst := hst h
    have hx := szL_mem (sz := cSession) (List.getElem_mem h)
    generalize l[i] = x at hg hst hx
    simp only [cSession] at hx hst
    have w0 : IntKind.i64.wrap (j + 1) = j + 1 := wrap64 (by omega) (by omega)
    have f0 : (mkSession j x).Id = mtext (j) := rfl
    have w1 : IntKind.i64.wrap (j + 1 + 1) = j + 1 + 1 := wrap64 (by omega) (by omega)
    have f1 : (mkSession j x).Data = mtext (j + 1) := rfl
    have w2 : IntKind.i64.wrap (j + 1 + 1 + 1) = j + 1 + 1 + 1 := wrap64 (by omega) (by omega)
    have f2 : (mkSession j x).Holder = j + 1 + 1 := rfl
    have w3 : IntKind.i64.wrap (j + 1 + 1 + 1 + 1) = j + 1 + 1 + 1 + 1 := wrap64 (by omega) (by omega)
    have f3 : (mkSession j x).At = j + 1 + 1 + 1 := rfl
    refine ⟨_, hg, ?_⟩
    simp [e0, e1, e5, h, w0, w1, w2, w3, f0, f1, f2, f3]
    refine callF_fn0 (mtext_fn (by omega)) .str fun _ _ => ?_
    simp [e0, e1, e5, h, w0, w1, w2, w3, f0, f1, f2, f3]
    refine ⟨_, hg, ?_⟩
    simp [e0, e1, e5, h, w0, w1, w2, w3, f0, f1, f2, f3]
    refine callF_fn0 (mtext_fn (by omega)) .str fun _ _ => ?_
    simp [e0, e1, e5, h, w0, w1, w2, w3, f0, f1, f2, f3]
    refine ⟨_, hg, ?_⟩
    simp [e0, e1, e5, h, w0, w1, w2, w3, f0, f1, f2, f3]
    refine ⟨_, hg, ?_⟩
    simp [e0, e1, e5, h, w0, w1, w2, w3, f0, f1, f2, f3]
    refine hN _ _ _ _ h (List.Sublist.refl _) ⟨by simp [upd, e0], ?_, by simp [upd]; exact step64 (by unfold mx; omega) h, rfl⟩
    simp [upd, w0, w1, w2, w3, hst]; omega
  · have h1 : i = l.length := by omega
    subst h1
    refine fin_plain ⟨?_, rfl⟩
    rw [← hjj]; simp
theorem heldSession_fn {s : SL TSession} (hz : szL cSession s.list ≤ 16777216) {k : Int} (hk : 0 ≤ k ∧ k ≤ 1099511627776) :
    Fnc Tryd.prog 108 [(s.marks mkSession cSession k).av 4 TSession.enc, .int .i64 k] (.int .i64 (k + szL cSession s.list)) := by
  cases s with
  | nil =>
    have := heldSession_nil k
    simpa [SL.av, SL.marks, szL] using this
  | mk t l => exact heldSession_fn1 (l := l) hz hk t
theorem heldPair_nil (k : Int) : Fnc Tryd.prog 16 [.nsl, .int .i64 k] (.int .i64 k) := by
  refine fn_of c16 (by simp [F16]) fun c => ?_
  unfold F16
  simp
  refine loop_drop 0 (fun i e H c' => e 0 = .nsl ∧ e 1 = .int .i64 k ∧ e 5 = .int .i64 0 ∧ H = []) ⟨rfl, rfl, rfl, rfl⟩ ?_
  intro i e H c hi ⟨e0, e1, e5, hH⟩ N hN
  subst hH
  simp [e0, e1, e5]
  exact fin_plain ⟨rfl, rfl⟩
set_option maxHeartbeats 4000000 in
theorem heldPair_fn1 {l : List TPair} (hz : szL cPair l ≤ 16777216) {k : Int} (hk : 0 ≤ k ∧ k ≤ 1099511627776) (t : Nat) :
    Fnc Tryd.prog 16 [(SL.mk t (mks mkPair cPair k l)).av 2 TPair.enc, .int .i64 k] (.int .i64 (k + szL cPair l)) := by
  have hln := szL_cPair l
  refine fn_of c16 (by simp [F16]) fun c => ?_
  unfold F16
  simp
  have hlen := mks_len mkPair cPair k l
  refine loop_drop l.length (fun i e H c' => e 0 = (SL.mk t (mks mkPair cPair k l)).av 2 TPair.enc ∧ e 1 = .int .i64 (k + szL cPair (l.take i)) ∧ e 5 = .int .i64 i ∧ H = []) ⟨rfl, by simp [szL], rfl, rfl⟩ ?_
  intro i e H c hi ⟨e0, e1, e5, hH⟩ N hN
  subst hH
  have hg := fun h : i < l.length => mks_get mkPair cPair k l h
  have hst := fun h : i < l.length => szL_step cPair l h
  have hle := szL_le cPair l i
  have hle' := szL_le cPair l (i + 1)
  generalize hjj : k + (szL cPair (l.take i) : Int) = j at e1 hg
  simp [e0, e1, e5, hlen]
  refine ⟨fun h => ?_, fun h => ?_⟩
  · have hg := hg h
    have hst := hst h
    have hx := szL_mem (sz := cPair) (List.getElem_mem h)
    generalize l[i] = x at hg hst hx
    simp only [cPair] at hx hst
    have w0 : IntKind.i64.wrap (j + 1) = j + 1 := wrap64 (by omega) (by omega)
    have f0 : (mkPair j x).Name = mtext (j) := rfl
    have w1 : IntKind.i64.wrap (j + 1 + 1) = j + 1 + 1 := wrap64 (by omega) (by omega)
    have f1 : (mkPair j x).Value = mtext (j + 1) := rfl
    refine ⟨_, hg, ?_⟩
    simp [e0, e1, e5, h, w0, w1, f0, f1]
    refine callF_fn0 (mtext_fn (by omega)) .str fun _ _ => ?_
    simp [e0, e1, e5, h, w0, w1, f0, f1]
    refine ⟨_, hg, ?_⟩
    simp [e0, e1, e5, h, w0, w1, f0, f1]
    refine callF_fn0 (mtext_fn (by omega)) .str fun _ _ => ?_
    simp [e0, e1, e5, h, w0, w1, f0, f1]
    refine hN _ _ _ _ h (List.Sublist.refl _) ⟨by simp [upd, e0], ?_, by simp [upd]; exact step64 (by unfold mx; omega) h, rfl⟩
    simp [upd, w0, w1, hst]; omega
  · have h1 : i = l.length := by omega
    subst h1
    refine fin_plain ⟨?_, rfl⟩
    rw [← hjj]; simp
theorem heldPair_fn {s : SL TPair} (hz : szL cPair s.list ≤ 16777216) {k : Int} (hk : 0 ≤ k ∧ k ≤ 1099511627776) :
    Fnc Tryd.prog 16 [(s.marks mkPair cPair k).av 2 TPair.enc, .int .i64 k] (.int .i64 (k + szL cPair s.list)) := by
  cases s with
  | nil =>
    have := heldPair_nil k
    simpa [SL.av, SL.marks, szL] using this
  | mk t l => exact heldPair_fn1 (l := l) hz hk t
theorem heldHeader_nil (k : Int) : Fnc Tryd.prog 90 [.nsl, .int .i64 k] (.int .i64 k) := by
  refine fn_of c90 (by simp [F90]) fun c => ?_
  unfold F90
  simp
  refine loop_drop 0 (fun i e H c' => e 0 = .nsl ∧ e 1 = .int .i64 k ∧ e 5 = .int .i64 0 ∧ H = []) ⟨rfl, rfl, rfl, rfl⟩ ?_
  intro i e H c hi ⟨e0, e1, e5, hH⟩ N hN
  subst hH
  simp [e0, e1, e5]
  exact fin_plain ⟨rfl, rfl⟩
set_option maxHeartbeats 4000000 in
theorem heldHeader_fn1 {l : List THeader} (hz : szL cHeader l ≤ 16777216) {k : Int} (hk : 0 ≤ k ∧ k ≤ 1099511627776) (t : Nat) :
    Fnc Tryd.prog 90 [(SL.mk t (mks mkHeader cHeader k l)).av 2 THeader.enc, .int .i64 k] (.int .i64 (k + szL cHeader l)) := by
  have hln := szL_cHeader l
  refine fn_of c90 (by simp [F90]) fun c => ?_
  unfold F90
  simp
  have hlen := mks_len mkHeader cHeader k l
  refine loop_drop l.length (fun i e H c' => e 0 = (SL.mk t (mks mkHeader cHeader k l)).av 2 THeader.enc ∧ e 1 = .int .i64 (k + szL cHeader (l.take i)) ∧ e 5 = .int .i64 i ∧ H = []) ⟨rfl, by simp [szL], rfl, rfl⟩ ?_
  intro i e H c hi ⟨e0, e1, e5, hH⟩ N hN
  subst hH
  have hg := fun h : i < l.length => mks_get mkHeader cHeader k l h
  have hst := fun h : i < l.length => szL_step cHeader l h
  have hle := szL_le cHeader l i
  have hle' := szL_le cHeader l (i + 1)
  generalize hjj : k + (szL cHeader (l.take i) : Int) = j at e1 hg
  simp [e0, e1, e5, hlen]
  refine ⟨fun h => ?_, fun h => ?_⟩
  · have hg := hg h
    have hst := hst h
    have hx := szL_mem (sz := cHeader) (List.getElem_mem h)
    generalize l[i] = x at hg hst hx
    simp only [cHeader] at hx hst
    have w0 : IntKind.i64.wrap (j + 1) = j + 1 := wrap64 (by omega) (by omega)
    have f0 : (mkHeader j x).Name = mtext (j) := rfl
    have w1 : IntKind.i64.wrap (j + 1 + 1) = j + 1 + 1 := wrap64 (by omega) (by omega)
    have f1 : (mkHeader j x).Value = mtext (j + 1) := rfl
    refine ⟨_, hg, ?_⟩
    simp [e0, e1, e5, h, w0, w1, f0, f1]
    refine callF_fn0 (mtext_fn (by omega)) .str fun _ _ => ?_
    simp [e0, e1, e5, h, w0, w1, f0, f1]
    refine ⟨_, hg, ?_⟩
    simp [e0, e1, e5, h, w0, w1, f0, f1]
    refine callF_fn0 (mtext_fn (by omega)) .str fun _ _ => ?_
    simp [e0, e1, e5, h, w0, w1, f0, f1]
    refine hN _ _ _ _ h (List.Sublist.refl _) ⟨by simp [upd, e0], ?_, by simp [upd]; exact step64 (by unfold mx; omega) h, rfl⟩
    simp [upd, w0, w1, hst]; omega
  · have h1 : i = l.length := by omega
    subst h1
    refine fin_plain ⟨?_, rfl⟩
    rw [← hjj]; simp
theorem heldHeader_fn {s : SL THeader} (hz : szL cHeader s.list ≤ 16777216) {k : Int} (hk : 0 ≤ k ∧ k ≤ 1099511627776) :
    Fnc Tryd.prog 90 [(s.marks mkHeader cHeader k).av 2 THeader.enc, .int .i64 k] (.int .i64 (k + szL cHeader s.list)) := by
  cases s with
  | nil =>
    have := heldHeader_nil k
    simpa [SL.av, SL.marks, szL] using this
  | mk t l => exact heldHeader_fn1 (l := l) hz hk t
theorem heldJob_nil (k : Int) : Fnc Tryd.prog 109 [.nsl, .int .i64 k] (.int .i64 k) := by
  refine fn_of c109 (by simp [F109]) fun c => ?_
  unfold F109
  simp
  refine loop_drop 0 (fun i e H c' => e 0 = .nsl ∧ e 1 = .int .i64 k ∧ e 5 = .int .i64 0 ∧ H = []) ⟨rfl, rfl, rfl, rfl⟩ ?_
  intro i e H c hi ⟨e0, e1, e5, hH⟩ N hN
  subst hH
  simp [e0, e1, e5]
  exact fin_plain ⟨rfl, rfl⟩
set_option maxHeartbeats 4000000 in
theorem heldJob_fn1 {l : List TJob} (hz : szL cJob l ≤ 16777216) {k : Int} (hk : 0 ≤ k ∧ k ≤ 549755813888) (t : Nat) :
    Fnc Tryd.prog 109 [(SL.mk t (mks mkJob cJob k l)).av 5 TJob.enc, .int .i64 k] (.int .i64 (k + szL cJob l)) := by
  have hln := szL_cJob l
  refine fn_of c109 (by simp [F109]) fun c => ?_
  unfold F109
  simp
  have hlen := mks_len mkJob cJob k l
  refine loop_drop l.length (fun i e H c' => e 0 = (SL.mk t (mks mkJob cJob k l)).av 5 TJob.enc ∧ e 1 = .int .i64 (k + szL cJob (l.take i)) ∧ e 5 = .int .i64 i ∧ H = []) ⟨rfl, by simp [szL], rfl, rfl⟩ ?_
  intro i e H c hi ⟨e0, e1, e5, hH⟩ N hN
  subst hH
  have hg := fun h : i < l.length => mks_get mkJob cJob k l h
  have hst := fun h : i < l.length => szL_step cJob l h
  have hle := szL_le cJob l i
  have hle' := szL_le cJob l (i + 1)
  generalize hjj : k + (szL cJob (l.take i) : Int) = j at e1 hg
  simp [e0, e1, e5, hlen]
  refine ⟨fun h => ?_, fun h => ?_⟩
  · have hg := hg h
    have hst := hst h
    have hx := szL_mem (sz := cJob) (List.getElem_mem h)
    generalize l[i] = x at hg hst hx
    simp only [cJob] at hx hst
    have w0 : IntKind.i64.wrap (j + 1) = j + 1 := wrap64 (by omega) (by omega)
    have f0 : (mkJob j x).Id = j := rfl
    have w1 : IntKind.i64.wrap (j + 1 + 1) = j + 1 + 1 := wrap64 (by omega) (by omega)
    have f1 : (mkJob j x).Request.Path = mtext (j + 1) := rfl
    have f2 : (mkJob j x).Request.Query = x.Request.Query.marks mkPair cPair (j + 1 + 1) := rfl
    have f3 : (mkJob j x).Request.Cookies = x.Request.Cookies.marks mkPair cPair (j + 1 + 1 + szL cPair x.Request.Query.list) := rfl
    have w4 : IntKind.i64.wrap (j + 1 + 1 + szL cPair x.Request.Query.list + szL cPair x.Request.Cookies.list + 1) = j + 1 + 1 + szL cPair x.Request.Query.list + szL cPair x.Request.Cookies.list + 1 := wrap64 (by omega) (by omega)
    have f4 : (mkJob j x).Session = mtext (j + 1 + 1 + szL cPair x.Request.Query.list + szL cPair x.Request.Cookies.list) := rfl
    have p2 : ¬ (j + 1 + 1 + szL cPair x.Request.Query.list < 0) := by omega
    have p3 : ¬ (j + 1 + 1 + szL cPair x.Request.Query.list + szL cPair x.Request.Cookies.list < 0) := by omega
    refine ⟨_, hg, ?_⟩
    simp [e0, e1, e5, h, w0, w1, w4, f0, f1, f2, f3, f4, p2, p3]
    refine ⟨_, hg, ?_⟩
    simp [e0, e1, e5, h, w0, w1, w4, f0, f1, f2, f3, f4, p2, p3]
    refine callF_fn0 (mtext_fn (by omega)) .str fun _ _ => ?_
    simp [e0, e1, e5, h, w0, w1, w4, f0, f1, f2, f3, f4, p2, p3]
    refine ⟨_, hg, ?_⟩
    simp [e0, e1, e5, h, w0, w1, w4, f0, f1, f2, f3, f4, p2, p3]
    refine call_fn0 (heldPair_fn (s := x.Request.Query) (by omega) (k := j + 1 + 1) ⟨by omega, by omega⟩) .int fun _ _ => ?_
    simp [e0, e1, e5, h, w0, w1, w4, f0, f1, f2, f3, f4, p2, p3]
    refine ⟨_, hg, ?_⟩
    simp [e0, e1, e5, h, w0, w1, w4, f0, f1, f2, f3, f4, p2, p3]
    refine call_fn0 (heldPair_fn (s := x.Request.Cookies) (by omega) (k := j + 1 + 1 + szL cPair x.Request.Query.list) ⟨by omega, by omega⟩) .int fun _ _ => ?_
    simp [e0, e1, e5, h, w0, w1, w4, f0, f1, f2, f3, f4, p2, p3]
    refine ⟨_, hg, ?_⟩
    simp [e0, e1, e5, h, w0, w1, w4, f0, f1, f2, f3, f4, p2, p3]
    refine callF_fn0 (mtext_fn (by omega)) .str fun _ _ => ?_
    simp [e0, e1, e5, h, w0, w1, w4, f0, f1, f2, f3, f4, p2, p3]
    refine hN _ _ _ _ h (List.Sublist.refl _) ⟨by simp [upd, e0], ?_, by simp [upd]; exact step64 (by unfold mx; omega) h, rfl⟩
    simp [upd, w0, w1, w4, hst]; omega
  · have h1 : i = l.length := by omega
    subst h1
    refine fin_plain ⟨?_, rfl⟩
    rw [← hjj]; simp
theorem heldJob_fn {s : SL TJob} (hz : szL cJob s.list ≤ 16777216) {k : Int} (hk : 0 ≤ k ∧ k ≤ 549755813888) :
    Fnc Tryd.prog 109 [(s.marks mkJob cJob k).av 5 TJob.enc, .int .i64 k] (.int .i64 (k + szL cJob s.list)) := by
  cases s with
  | nil =>
    have := heldJob_nil k
    simpa [SL.av, SL.marks, szL] using this
  | mk t l => exact heldJob_fn1 (l := l) hz hk t
theorem heldWorker_nil (k : Int) : Fnc Tryd.prog 110 [.nsl, .int .i64 k] (.int .i64 k) := by
  refine fn_of c110 (by simp [F110]) fun c => ?_
  unfold F110
  simp
  refine loop_drop 0 (fun i e H c' => e 0 = .nsl ∧ e 1 = .int .i64 k ∧ e 5 = .int .i64 0 ∧ H = []) ⟨rfl, rfl, rfl, rfl⟩ ?_
  intro i e H c hi ⟨e0, e1, e5, hH⟩ N hN
  subst hH
  simp [e0, e1, e5]
  exact fin_plain ⟨rfl, rfl⟩
set_option maxHeartbeats 4000000 in
theorem heldWorker_fn1 {l : List TWorker} (hz : szL cWorker l ≤ 16777216) {k : Int} (hk : 0 ≤ k ∧ k ≤ 549755813888) (t : Nat) :
    Fnc Tryd.prog 110 [(SL.mk t (mks mkWorker cWorker k l)).av 9 TWorker.enc, .int .i64 k] (.int .i64 (k + szL cWorker l)) := by
  have hln := szL_cWorker l
  refine fn_of c110 (by simp [F110]) fun c => ?_
  unfold F110
  simp
  have hlen := mks_len mkWorker cWorker k l
  refine loop_drop l.length (fun i e H c' => e 0 = (SL.mk t (mks mkWorker cWorker k l)).av 9 TWorker.enc ∧ e 1 = .int .i64 (k + szL cWorker (l.take i)) ∧ e 5 = .int .i64 i ∧ H = []) ⟨rfl, by simp [szL], rfl, rfl⟩ ?_
  intro i e H c hi ⟨e0, e1, e5, hH⟩ N hN
  subst hH
  have hg := fun h : i < l.length => mks_get mkWorker cWorker k l h
  have hst := fun h : i < l.length => szL_step cWorker l h
  have hle := szL_le cWorker l i
  have hle' := szL_le cWorker l (i + 1)
  generalize hjj : k + (szL cWorker (l.take i) : Int) = j at e1 hg
  simp [e0, e1, e5, hlen]
  refine ⟨fun h => ?_, fun h => ?_⟩
  · have hg := hg h
    have hst := hst h
    have hx := szL_mem (sz := cWorker) (List.getElem_mem h)
    generalize l[i] = x at hg hst hx
    simp only [cWorker] at hx hst
    have w0 : IntKind.i64.wrap (j + 1) = j + 1 := wrap64 (by omega) (by omega)
    have f0 : (mkWorker j x).State = j := rfl
    have w1 : IntKind.i64.wrap (j + 1 + 1) = j + 1 + 1 := wrap64 (by omega) (by omega)
    have f1 : (mkWorker j x).Job.Id = j + 1 := rfl
    have w2 : IntKind.i64.wrap (j + 1 + 1 + 1) = j + 1 + 1 + 1 := wrap64 (by omega) (by omega)
    have f2 : (mkWorker j x).Job.Request.Path = mtext (j + 1 + 1) := rfl
    have f3 : (mkWorker j x).Job.Request.Query = x.Job.Request.Query.marks mkPair cPair (j + 1 + 1 + 1) := rfl
    have f4 : (mkWorker j x).Job.Request.Cookies = x.Job.Request.Cookies.marks mkPair cPair (j + 1 + 1 + 1 + szL cPair x.Job.Request.Query.list) := rfl
    have w5 : IntKind.i64.wrap (j + 1 + 1 + 1 + szL cPair x.Job.Request.Query.list + szL cPair x.Job.Request.Cookies.list + 1) = j + 1 + 1 + 1 + szL cPair x.Job.Request.Query.list + szL cPair x.Job.Request.Cookies.list + 1 := wrap64 (by omega) (by omega)
    have f5 : (mkWorker j x).Job.Session = mtext (j + 1 + 1 + 1 + szL cPair x.Job.Request.Query.list + szL cPair x.Job.Request.Cookies.list) := rfl
    have w6 : IntKind.i64.wrap (j + 1 + 1 + 1 + szL cPair x.Job.Request.Query.list + szL cPair x.Job.Request.Cookies.list + 1 + 1) = j + 1 + 1 + 1 + szL cPair x.Job.Request.Query.list + szL cPair x.Job.Request.Cookies.list + 1 + 1 := wrap64 (by omega) (by omega)
    have f6 : (mkWorker j x).Data = mtext (j + 1 + 1 + 1 + szL cPair x.Job.Request.Query.list + szL cPair x.Job.Request.Cookies.list + 1) := rfl
    have f7 : (mkWorker j x).Files = x.Files.marks mkFile cFile (j + 1 + 1 + 1 + szL cPair x.Job.Request.Query.list + szL cPair x.Job.Request.Cookies.list + 1 + 1) := rfl
    have w8 : IntKind.i64.wrap (j + 1 + 1 + 1 + szL cPair x.Job.Request.Query.list + szL cPair x.Job.Request.Cookies.list + 1 + 1 + szL cFile x.Files.list + 1) = j + 1 + 1 + 1 + szL cPair x.Job.Request.Query.list + szL cPair x.Job.Request.Cookies.list + 1 + 1 + szL cFile x.Files.list + 1 := wrap64 (by omega) (by omega)
    have f8 : (mkWorker j x).Served = j + 1 + 1 + 1 + szL cPair x.Job.Request.Query.list + szL cPair x.Job.Request.Cookies.list + 1 + 1 + szL cFile x.Files.list := rfl
    have p3 : ¬ (j + 1 + 1 + 1 + szL cPair x.Job.Request.Query.list < 0) := by omega
    have p4 : ¬ (j + 1 + 1 + 1 + szL cPair x.Job.Request.Query.list + szL cPair x.Job.Request.Cookies.list < 0) := by omega
    have p7 : ¬ (j + 1 + 1 + 1 + szL cPair x.Job.Request.Query.list + szL cPair x.Job.Request.Cookies.list + 1 + 1 + szL cFile x.Files.list < 0) := by omega
    refine ⟨_, hg, ?_⟩
    simp [e0, e1, e5, h, w0, w1, w2, w5, w6, w8, f0, f1, f2, f3, f4, f5, f6, f7, f8, p3, p4, p7]
    refine ⟨_, hg, ?_⟩
    simp [e0, e1, e5, h, w0, w1, w2, w5, w6, w8, f0, f1, f2, f3, f4, f5, f6, f7, f8, p3, p4, p7]
    refine ⟨_, hg, ?_⟩
    simp [e0, e1, e5, h, w0, w1, w2, w5, w6, w8, f0, f1, f2, f3, f4, f5, f6, f7, f8, p3, p4, p7]
    refine callF_fn0 (mtext_fn (by omega)) .str fun _ _ => ?_
    simp [e0, e1, e5, h, w0, w1, w2, w5, w6, w8, f0, f1, f2, f3, f4, f5, f6, f7, f8, p3, p4, p7]
    refine ⟨_, hg, ?_⟩
    simp [e0, e1, e5, h, w0, w1, w2, w5, w6, w8, f0, f1, f2, f3, f4, f5, f6, f7, f8, p3, p4, p7]
    refine call_fn0 (heldPair_fn (s := x.Job.Request.Query) (by omega) (k := j + 1 + 1 + 1) ⟨by omega, by omega⟩) .int fun _ _ => ?_
    simp [e0, e1, e5, h, w0, w1, w2, w5, w6, w8, f0, f1, f2, f3, f4, f5, f6, f7, f8, p3, p4, p7]
    refine ⟨_, hg, ?_⟩
    simp [e0, e1, e5, h, w0, w1, w2, w5, w6, w8, f0, f1, f2, f3, f4, f5, f6, f7, f8, p3, p4, p7]
    refine call_fn0 (heldPair_fn (s := x.Job.Request.Cookies) (by omega) (k := j + 1 + 1 + 1 + szL cPair x.Job.Request.Query.list) ⟨by omega, by omega⟩) .int fun _ _ => ?_
    simp [e0, e1, e5, h, w0, w1, w2, w5, w6, w8, f0, f1, f2, f3, f4, f5, f6, f7, f8, p3, p4, p7]
    refine ⟨_, hg, ?_⟩
    simp [e0, e1, e5, h, w0, w1, w2, w5, w6, w8, f0, f1, f2, f3, f4, f5, f6, f7, f8, p3, p4, p7]
    refine callF_fn0 (mtext_fn (by omega)) .str fun _ _ => ?_
    simp [e0, e1, e5, h, w0, w1, w2, w5, w6, w8, f0, f1, f2, f3, f4, f5, f6, f7, f8, p3, p4, p7]
    refine ⟨_, hg, ?_⟩
    simp [e0, e1, e5, h, w0, w1, w2, w5, w6, w8, f0, f1, f2, f3, f4, f5, f6, f7, f8, p3, p4, p7]
    refine callF_fn0 (mtext_fn (by omega)) .str fun _ _ => ?_
    simp [e0, e1, e5, h, w0, w1, w2, w5, w6, w8, f0, f1, f2, f3, f4, f5, f6, f7, f8, p3, p4, p7]
    refine ⟨_, hg, ?_⟩
    simp [e0, e1, e5, h, w0, w1, w2, w5, w6, w8, f0, f1, f2, f3, f4, f5, f6, f7, f8, p3, p4, p7]
    refine call_fn0 (heldFile_fn (s := x.Files) (by omega) (k := j + 1 + 1 + 1 + szL cPair x.Job.Request.Query.list + szL cPair x.Job.Request.Cookies.list + 1 + 1) ⟨by omega, by omega⟩) .int fun _ _ => ?_
    simp [e0, e1, e5, h, w0, w1, w2, w5, w6, w8, f0, f1, f2, f3, f4, f5, f6, f7, f8, p3, p4, p7]
    refine ⟨_, hg, ?_⟩
    simp [e0, e1, e5, h, w0, w1, w2, w5, w6, w8, f0, f1, f2, f3, f4, f5, f6, f7, f8, p3, p4, p7]
    refine hN _ _ _ _ h (List.Sublist.refl _) ⟨by simp [upd, e0], ?_, by simp [upd]; exact step64 (by unfold mx; omega) h, rfl⟩
    simp [upd, w0, w1, w2, w5, w6, w8, hst]; omega
  · have h1 : i = l.length := by omega
    subst h1
    refine fin_plain ⟨?_, rfl⟩
    rw [← hjj]; simp
theorem heldWorker_fn {s : SL TWorker} (hz : szL cWorker s.list ≤ 16777216) {k : Int} (hk : 0 ≤ k ∧ k ≤ 549755813888) :
    Fnc Tryd.prog 110 [(s.marks mkWorker cWorker k).av 9 TWorker.enc, .int .i64 k] (.int .i64 (k + szL cWorker s.list)) := by
  cases s with
  | nil =>
    have := heldWorker_nil k
    simpa [SL.av, SL.marks, szL] using this
  | mk t l => exact heldWorker_fn1 (l := l) hz hk t
theorem heldAnswer_nil (k : Int) : Fnc Tryd.prog 111 [.nsl, .int .i64 k] (.int .i64 k) := by
  refine fn_of c111 (by simp [F111]) fun c => ?_
  unfold F111
  simp
  refine loop_drop 0 (fun i e H c' => e 0 = .nsl ∧ e 1 = .int .i64 k ∧ e 5 = .int .i64 0 ∧ H = []) ⟨rfl, rfl, rfl, rfl⟩ ?_
  intro i e H c hi ⟨e0, e1, e5, hH⟩ N hN
  subst hH
  simp [e0, e1, e5]
  exact fin_plain ⟨rfl, rfl⟩
set_option maxHeartbeats 4000000 in
theorem heldAnswer_fn1 {l : List TAnswer} (hz : szL cAnswer l ≤ 16777216) {k : Int} (hk : 0 ≤ k ∧ k ≤ 549755813888) (t : Nat) :
    Fnc Tryd.prog 111 [(SL.mk t (mks mkAnswer cAnswer k l)).av 11 TAnswer.enc, .int .i64 k] (.int .i64 (k + szL cAnswer l)) := by
  have hln := szL_cAnswer l
  refine fn_of c111 (by simp [F111]) fun c => ?_
  unfold F111
  simp
  have hlen := mks_len mkAnswer cAnswer k l
  refine loop_drop l.length (fun i e H c' => e 0 = (SL.mk t (mks mkAnswer cAnswer k l)).av 11 TAnswer.enc ∧ e 1 = .int .i64 (k + szL cAnswer (l.take i)) ∧ e 5 = .int .i64 i ∧ H = []) ⟨rfl, by simp [szL], rfl, rfl⟩ ?_
  intro i e H c hi ⟨e0, e1, e5, hH⟩ N hN
  subst hH
  have hg := fun h : i < l.length => mks_get mkAnswer cAnswer k l h
  have hst := fun h : i < l.length => szL_step cAnswer l h
  have hle := szL_le cAnswer l i
  have hle' := szL_le cAnswer l (i + 1)
  generalize hjj : k + (szL cAnswer (l.take i) : Int) = j at e1 hg
  simp [e0, e1, e5, hlen]
  refine ⟨fun h => ?_, fun h => ?_⟩
  · have hg := hg h
    have hst := hst h
    have hx := szL_mem (sz := cAnswer) (List.getElem_mem h)
    generalize l[i] = x at hg hst hx
    simp only [cAnswer] at hx hst
    have w0 : IntKind.i64.wrap (j + 1) = j + 1 := wrap64 (by omega) (by omega)
    have f0 : (mkAnswer j x).Id = j := rfl
    have w1 : IntKind.i64.wrap (j + 1 + 1) = j + 1 + 1 := wrap64 (by omega) (by omega)
    have f1 : (mkAnswer j x).Session = mtext (j + 1) := rfl
    have f2 : (mkAnswer j x).Files = x.Files.marks mkFile cFile (j + 1 + 1) := rfl
    have w3 : IntKind.i64.wrap (j + 1 + 1 + szL cFile x.Files.list + 1) = j + 1 + 1 + szL cFile x.Files.list + 1 := wrap64 (by omega) (by omega)
    have f3 : (mkAnswer j x).Request.Path = mtext (j + 1 + 1 + szL cFile x.Files.list) := rfl
    have f4 : (mkAnswer j x).Request.Query = x.Request.Query.marks mkPair cPair (j + 1 + 1 + szL cFile x.Files.list + 1) := rfl
    have f5 : (mkAnswer j x).Request.Cookies = x.Request.Cookies.marks mkPair cPair (j + 1 + 1 + szL cFile x.Files.list + 1 + szL cPair x.Request.Query.list) := rfl
    have w6 : IntKind.i64.wrap (j + 1 + 1 + szL cFile x.Files.list + 1 + szL cPair x.Request.Query.list + szL cPair x.Request.Cookies.list + 1) = j + 1 + 1 + szL cFile x.Files.list + 1 + szL cPair x.Request.Query.list + szL cPair x.Request.Cookies.list + 1 := wrap64 (by omega) (by omega)
    have f6 : (mkAnswer j x).Before = mtext (j + 1 + 1 + szL cFile x.Files.list + 1 + szL cPair x.Request.Query.list + szL cPair x.Request.Cookies.list) := rfl
    have w7 : IntKind.i64.wrap (j + 1 + 1 + szL cFile x.Files.list + 1 + szL cPair x.Request.Query.list + szL cPair x.Request.Cookies.list + 1 + 1) = j + 1 + 1 + szL cFile x.Files.list + 1 + szL cPair x.Request.Query.list + szL cPair x.Request.Cookies.list + 1 + 1 := wrap64 (by omega) (by omega)
    have f7 : (mkAnswer j x).Response.Code = j + 1 + 1 + szL cFile x.Files.list + 1 + szL cPair x.Request.Query.list + szL cPair x.Request.Cookies.list + 1 := rfl
    have f8 : (mkAnswer j x).Response.Headers = x.Response.Headers.marks mkHeader cHeader (j + 1 + 1 + szL cFile x.Files.list + 1 + szL cPair x.Request.Query.list + szL cPair x.Request.Cookies.list + 1 + 1) := rfl
    have w9 : IntKind.i64.wrap (j + 1 + 1 + szL cFile x.Files.list + 1 + szL cPair x.Request.Query.list + szL cPair x.Request.Cookies.list + 1 + 1 + szL cHeader x.Response.Headers.list + 1) = j + 1 + 1 + szL cFile x.Files.list + 1 + szL cPair x.Request.Query.list + szL cPair x.Request.Cookies.list + 1 + 1 + szL cHeader x.Response.Headers.list + 1 := wrap64 (by omega) (by omega)
    have f9 : (mkAnswer j x).Response.Body = mtext (j + 1 + 1 + szL cFile x.Files.list + 1 + szL cPair x.Request.Query.list + szL cPair x.Request.Cookies.list + 1 + 1 + szL cHeader x.Response.Headers.list) := rfl
    have w10 : IntKind.i64.wrap (j + 1 + 1 + szL cFile x.Files.list + 1 + szL cPair x.Request.Query.list + szL cPair x.Request.Cookies.list + 1 + 1 + szL cHeader x.Response.Headers.list + 1 + 1) = j + 1 + 1 + szL cFile x.Files.list + 1 + szL cPair x.Request.Query.list + szL cPair x.Request.Cookies.list + 1 + 1 + szL cHeader x.Response.Headers.list + 1 + 1 := wrap64 (by omega) (by omega)
    have f10 : (mkAnswer j x).After = mtext (j + 1 + 1 + szL cFile x.Files.list + 1 + szL cPair x.Request.Query.list + szL cPair x.Request.Cookies.list + 1 + 1 + szL cHeader x.Response.Headers.list + 1) := rfl
    have p2 : ¬ (j + 1 + 1 + szL cFile x.Files.list < 0) := by omega
    have p4 : ¬ (j + 1 + 1 + szL cFile x.Files.list + 1 + szL cPair x.Request.Query.list < 0) := by omega
    have p5 : ¬ (j + 1 + 1 + szL cFile x.Files.list + 1 + szL cPair x.Request.Query.list + szL cPair x.Request.Cookies.list < 0) := by omega
    have p8 : ¬ (j + 1 + 1 + szL cFile x.Files.list + 1 + szL cPair x.Request.Query.list + szL cPair x.Request.Cookies.list + 1 + 1 + szL cHeader x.Response.Headers.list < 0) := by omega
    refine ⟨_, hg, ?_⟩
    simp [e0, e1, e5, h, w0, w1, w3, w6, w7, w9, w10, f0, f1, f2, f3, f4, f5, f6, f7, f8, f9, f10, p2, p4, p5, p8]
    refine ⟨_, hg, ?_⟩
    simp [e0, e1, e5, h, w0, w1, w3, w6, w7, w9, w10, f0, f1, f2, f3, f4, f5, f6, f7, f8, f9, f10, p2, p4, p5, p8]
    refine callF_fn0 (mtext_fn (by omega)) .str fun _ _ => ?_
    simp [e0, e1, e5, h, w0, w1, w3, w6, w7, w9, w10, f0, f1, f2, f3, f4, f5, f6, f7, f8, f9, f10, p2, p4, p5, p8]
    refine ⟨_, hg, ?_⟩
    simp [e0, e1, e5, h, w0, w1, w3, w6, w7, w9, w10, f0, f1, f2, f3, f4, f5, f6, f7, f8, f9, f10, p2, p4, p5, p8]
    refine call_fn0 (heldFile_fn (s := x.Files) (by omega) (k := j + 1 + 1) ⟨by omega, by omega⟩) .int fun _ _ => ?_
    simp [e0, e1, e5, h, w0, w1, w3, w6, w7, w9, w10, f0, f1, f2, f3, f4, f5, f6, f7, f8, f9, f10, p2, p4, p5, p8]
    refine ⟨_, hg, ?_⟩
    simp [e0, e1, e5, h, w0, w1, w3, w6, w7, w9, w10, f0, f1, f2, f3, f4, f5, f6, f7, f8, f9, f10, p2, p4, p5, p8]
    refine callF_fn0 (mtext_fn (by omega)) .str fun _ _ => ?_
    simp [e0, e1, e5, h, w0, w1, w3, w6, w7, w9, w10, f0, f1, f2, f3, f4, f5, f6, f7, f8, f9, f10, p2, p4, p5, p8]
    refine ⟨_, hg, ?_⟩
    simp [e0, e1, e5, h, w0, w1, w3, w6, w7, w9, w10, f0, f1, f2, f3, f4, f5, f6, f7, f8, f9, f10, p2, p4, p5, p8]
    refine call_fn0 (heldPair_fn (s := x.Request.Query) (by omega) (k := j + 1 + 1 + szL cFile x.Files.list + 1) ⟨by omega, by omega⟩) .int fun _ _ => ?_
    simp [e0, e1, e5, h, w0, w1, w3, w6, w7, w9, w10, f0, f1, f2, f3, f4, f5, f6, f7, f8, f9, f10, p2, p4, p5, p8]
    refine ⟨_, hg, ?_⟩
    simp [e0, e1, e5, h, w0, w1, w3, w6, w7, w9, w10, f0, f1, f2, f3, f4, f5, f6, f7, f8, f9, f10, p2, p4, p5, p8]
    refine call_fn0 (heldPair_fn (s := x.Request.Cookies) (by omega) (k := j + 1 + 1 + szL cFile x.Files.list + 1 + szL cPair x.Request.Query.list) ⟨by omega, by omega⟩) .int fun _ _ => ?_
    simp [e0, e1, e5, h, w0, w1, w3, w6, w7, w9, w10, f0, f1, f2, f3, f4, f5, f6, f7, f8, f9, f10, p2, p4, p5, p8]
    refine ⟨_, hg, ?_⟩
    simp [e0, e1, e5, h, w0, w1, w3, w6, w7, w9, w10, f0, f1, f2, f3, f4, f5, f6, f7, f8, f9, f10, p2, p4, p5, p8]
    refine callF_fn0 (mtext_fn (by omega)) .str fun _ _ => ?_
    simp [e0, e1, e5, h, w0, w1, w3, w6, w7, w9, w10, f0, f1, f2, f3, f4, f5, f6, f7, f8, f9, f10, p2, p4, p5, p8]
    refine ⟨_, hg, ?_⟩
    simp [e0, e1, e5, h, w0, w1, w3, w6, w7, w9, w10, f0, f1, f2, f3, f4, f5, f6, f7, f8, f9, f10, p2, p4, p5, p8]
    refine ⟨_, hg, ?_⟩
    simp [e0, e1, e5, h, w0, w1, w3, w6, w7, w9, w10, f0, f1, f2, f3, f4, f5, f6, f7, f8, f9, f10, p2, p4, p5, p8]
    refine call_fn0 (heldHeader_fn (s := x.Response.Headers) (by omega) (k := j + 1 + 1 + szL cFile x.Files.list + 1 + szL cPair x.Request.Query.list + szL cPair x.Request.Cookies.list + 1 + 1) ⟨by omega, by omega⟩) .int fun _ _ => ?_
    simp [e0, e1, e5, h, w0, w1, w3, w6, w7, w9, w10, f0, f1, f2, f3, f4, f5, f6, f7, f8, f9, f10, p2, p4, p5, p8]
    refine ⟨_, hg, ?_⟩
    simp [e0, e1, e5, h, w0, w1, w3, w6, w7, w9, w10, f0, f1, f2, f3, f4, f5, f6, f7, f8, f9, f10, p2, p4, p5, p8]
    refine callF_fn0 (mtext_fn (by omega)) .str fun _ _ => ?_
    simp [e0, e1, e5, h, w0, w1, w3, w6, w7, w9, w10, f0, f1, f2, f3, f4, f5, f6, f7, f8, f9, f10, p2, p4, p5, p8]
    refine ⟨_, hg, ?_⟩
    simp [e0, e1, e5, h, w0, w1, w3, w6, w7, w9, w10, f0, f1, f2, f3, f4, f5, f6, f7, f8, f9, f10, p2, p4, p5, p8]
    refine callF_fn0 (mtext_fn (by omega)) .str fun _ _ => ?_
    simp [e0, e1, e5, h, w0, w1, w3, w6, w7, w9, w10, f0, f1, f2, f3, f4, f5, f6, f7, f8, f9, f10, p2, p4, p5, p8]
    refine hN _ _ _ _ h (List.Sublist.refl _) ⟨by simp [upd, e0], ?_, by simp [upd]; exact step64 (by unfold mx; omega) h, rfl⟩
    simp [upd, w0, w1, w3, w6, w7, w9, w10, hst]; omega
  · have h1 : i = l.length := by omega
    subst h1
    refine fin_plain ⟨?_, rfl⟩
    rw [← hjj]; simp
theorem heldAnswer_fn {s : SL TAnswer} (hz : szL cAnswer s.list ≤ 16777216) {k : Int} (hk : 0 ≤ k ∧ k ≤ 549755813888) :
    Fnc Tryd.prog 111 [(s.marks mkAnswer cAnswer k).av 11 TAnswer.enc, .int .i64 k] (.int .i64 (k + szL cAnswer s.list)) := by
  cases s with
  | nil =>
    have := heldAnswer_nil k
    simpa [SL.av, SL.marks, szL] using this
  | mk t l => exact heldAnswer_fn1 (l := l) hz hk t
theorem heldServer_fn {s : TServer} (hz : szL cFile s.Files.list ≤ 8388608 ∧ szL cLine s.Lines.list ≤ 8388608 ∧ szL cSession s.Sessions.list ≤ 8388608 ∧ szL cJob s.Queue.list ≤ 8388608 ∧ szL cWorker s.Workers.list ≤ 8388608 ∧ szL cAnswer s.Done.list ≤ 8388608) (hw : ∀ x, x ∈ s.Lines.list → x.Words.list.length ≤ 1048576) {k : Int} (hk : 0 ≤ k ∧ k ≤ 1048576) :
    Fnc Tryd.prog 49 [.agg (mkServer k s).enc, .int .i64 k] (.int .i64 (k + cServer s)) := by
  obtain ⟨z1, z2, z3, z4, z5, z6⟩ := hz
  refine fn_of c49 (by simp [F49]) fun c => ?_
  unfold F49
  have f0 : (mkServer k s).Files = s.Files.marks mkFile cFile (k) := rfl
  have p0 : ¬ (k + szL cFile s.Files.list < 0) := by omega
  have f1 : (mkServer k s).Lines = s.Lines.marks mkLine cLine (k + szL cFile s.Files.list) := rfl
  have p1 : ¬ (k + szL cFile s.Files.list + szL cLine s.Lines.list < 0) := by omega
  have f2 : (mkServer k s).Sessions = s.Sessions.marks mkSession cSession (k + szL cFile s.Files.list + szL cLine s.Lines.list) := rfl
  have p2 : ¬ (k + szL cFile s.Files.list + szL cLine s.Lines.list + szL cSession s.Sessions.list < 0) := by omega
  have f3 : (mkServer k s).Queue = s.Queue.marks mkJob cJob (k + szL cFile s.Files.list + szL cLine s.Lines.list + szL cSession s.Sessions.list) := rfl
  have p3 : ¬ (k + szL cFile s.Files.list + szL cLine s.Lines.list + szL cSession s.Sessions.list + szL cJob s.Queue.list < 0) := by omega
  have f4 : (mkServer k s).Workers = s.Workers.marks mkWorker cWorker (k + szL cFile s.Files.list + szL cLine s.Lines.list + szL cSession s.Sessions.list + szL cJob s.Queue.list) := rfl
  have p4 : ¬ (k + szL cFile s.Files.list + szL cLine s.Lines.list + szL cSession s.Sessions.list + szL cJob s.Queue.list + szL cWorker s.Workers.list < 0) := by omega
  have f5 : (mkServer k s).Done = s.Done.marks mkAnswer cAnswer (k + szL cFile s.Files.list + szL cLine s.Lines.list + szL cSession s.Sessions.list + szL cJob s.Queue.list + szL cWorker s.Workers.list) := rfl
  have p5 : ¬ (k + szL cFile s.Files.list + szL cLine s.Lines.list + szL cSession s.Sessions.list + szL cJob s.Queue.list + szL cWorker s.Workers.list + szL cAnswer s.Done.list < 0) := by omega
  simp [f0, p0, f1, p1, f2, p2, f3, p3, f4, p4, f5, p5]
  refine call_fn0 (heldFile_fn (s := s.Files) (by omega) (k := k) ⟨by omega, by omega⟩) .int fun _ _ => ?_
  simp [f0, p0, f1, p1, f2, p2, f3, p3, f4, p4, f5, p5]
  refine call_fn0 (heldLine_fn (s := s.Lines) (by omega) hw (k := k + szL cFile s.Files.list) ⟨by omega, by omega⟩) .int fun _ _ => ?_
  simp [f0, p0, f1, p1, f2, p2, f3, p3, f4, p4, f5, p5]
  refine call_fn0 (heldSession_fn (s := s.Sessions) (by omega) (k := k + szL cFile s.Files.list + szL cLine s.Lines.list) ⟨by omega, by omega⟩) .int fun _ _ => ?_
  simp [f0, p0, f1, p1, f2, p2, f3, p3, f4, p4, f5, p5]
  refine call_fn0 (heldJob_fn (s := s.Queue) (by omega) (k := k + szL cFile s.Files.list + szL cLine s.Lines.list + szL cSession s.Sessions.list) ⟨by omega, by omega⟩) .int fun _ _ => ?_
  simp [f0, p0, f1, p1, f2, p2, f3, p3, f4, p4, f5, p5]
  refine call_fn0 (heldWorker_fn (s := s.Workers) (by omega) (k := k + szL cFile s.Files.list + szL cLine s.Lines.list + szL cSession s.Sessions.list + szL cJob s.Queue.list) ⟨by omega, by omega⟩) .int fun _ _ => ?_
  simp [f0, p0, f1, p1, f2, p2, f3, p3, f4, p4, f5, p5]
  refine call_fn0 (heldAnswer_fn (s := s.Done) (by omega) (k := k + szL cFile s.Files.list + szL cLine s.Lines.list + szL cSession s.Sessions.list + szL cJob s.Queue.list + szL cWorker s.Workers.list) ⟨by omega, by omega⟩) .int fun _ _ => ?_
  simp [f0, p0, f1, p1, f2, p2, f3, p3, f4, p4, f5, p5]
  exact fin_plain ⟨by simp [cServer]; omega, rfl⟩
end A
end Go.Proofs.YtfcimcoanlgldaaDoor

/-
  The objects of a contract stand in no order. No condition.
-/

namespace Go.Proofs.YtfcimcoanlgldaaDoor
namespace A
set_option linter.unusedVariables false
/-- The objects stand in no order, and some may be let go. -/
theorem con_perm {P : Program} {f : Nat} {args : List AV} {H : List AObj} {c : Nat} {Q Q' : AV → List AObj → Nat → Prop} (h : Con P f args H c Q) (hq : ∀ r H' c', Q r H' c' → ∃ Hs H2, Hs.Sublist H' ∧ H2.Perm Hs ∧ Q' r H2 c') : Con P f args H c Q' := by
  intro G w vs e I hs hr
  refine (h G w vs e I hs hr).mono fun en w' ⟨v, res, H', G', h1, h2, h3, h4, h5⟩ => ?_
  obtain ⟨Hs, H2, hsub, hp, q⟩ := hq _ _ _ h2
  have h3 := h3.drop hsub
  have h4 := h4.drop hsub
  have ht : ∀ t, t ∈ tags H2 ↔ t ∈ tags Hs := fun t => (hp.map _).mem_iff
  refine ⟨v, res, H2, G', h1, q, ⟨h3.x, h3.os, h3.tape, h3.output, h3.size, h3.frame, h3.newm, fun t a b => h3.oldH t a ((ht t).1 b), h3.oldF⟩, ⟨h4.fz, fun o ho => h4.obj o (hp.mem_iff.1 ho), fun t a => h4.nfz t ((ht t).1 a), (hp.map _).nodup_iff.2 h4.nodup, fun t t' a b => h4.inj t t' (a.imp id (ht t).1) (b.imp id (ht t').1), h4.gl⟩, h5⟩

theorem perm_cnt {l m : List AObj} (h : ∀ p : AObj → Bool, l.countP p = m.countP p) : l.Perm m := by
  haveI : DecidableEq AObj := fun a b => Classical.propDecidable (a = b)
  exact List.perm_iff_count.2 fun a => h _
end A
end Go.Proofs.YtfcimcoanlgldaaDoor

/-
  Servers kept as0 objects: bounds, marks, what a server's tree hangs on. No condition.
-/


namespace Go.Proofs.YtfcimcoanlgldaaDoor
namespace A
set_option linter.unusedVariables false
set_option linter.unusedSimpArgs false
set_option maxRecDepth 100000

theorem szL_lin {α : Type} (f g : α → Nat) (m n : Nat) (h : ∀ x, f x ≤ m + n * g x) (l : List α) : szL f l ≤ m * l.length + n * szL g l := by
  induction l with
  | nil => simp [szL]
  | cons x l ih =>
    have := h x
    simp only [szL, List.map_cons, List.sum_cons, List.length_cons, Nat.mul_add] at ih ⊢
    omega
theorem server_bounds {s : TServer} (h : s.sz ≤ 1048576) : (szL cFile s.Files.list ≤ 8388608 ∧ szL cLine s.Lines.list ≤ 8388608 ∧ szL cSession s.Sessions.list ≤ 8388608 ∧ szL cJob s.Queue.list ≤ 8388608 ∧ szL cWorker s.Workers.list ≤ 8388608 ∧ szL cAnswer s.Done.list ≤ 8388608) ∧ ∀ x, x ∈ s.Lines.list → x.Words.list.length ≤ 1048576 := by
  simp only [TServer.sz, szFileS, szLineS, szSessionS, szJobS, szWorkerS, szAnswerS] at h
  have hl := szLine_bounds (l := s.Lines.list) (by omega)
  have hj := szL_lin cJob TJob.sz 3 2 (fun x => by simp only [cJob, TJob.sz, TRequest.sz, szPairS, szL_ePair]; omega) s.Queue.list
  have hw := szL_lin cWorker TWorker.sz 6 3 (fun x => by simp only [cWorker, TWorker.sz, TJob.sz, TRequest.sz, szPairS, szFileS, szL_ePair, szL_eFile]; omega) s.Workers.list
  have ha := szL_lin cAnswer TAnswer.sz 7 3 (fun x => by simp only [cAnswer, TAnswer.sz, TRequest.sz, TResponse.sz, szPairS, szFileS, szHeaderS, szL_ePair, szL_eFile, szL_eHeader]; omega) s.Done.list
  refine ⟨⟨?_, hl.1, ?_, ?_, ?_, ?_⟩, hl.2.1⟩
  · rw [szL_eFile]; omega
  · rw [szL_eSession]; omega
  · omega
  · omega
  · omega
theorem callD_fnV {P : Program} {H : List AObj} {c : Nat} {R : AV → Prop} {f : Nat} {l l' : List AV} {K : AV → Prop} {res : AV} (hf : Fnc P f l' res) (hv : Views H l l') (hR : ∀ v, R v ↔ v = res) (hfr : ∀ c, From c res) (k : K res) : callD P R f l H c K :=
  ⟨l', hv, (fun c => (hf c).mono fun r H' c' _ ⟨h1, h2⟩ => ⟨h2, (hR r).2 h1, h1 ▸ hfr c⟩), ⟨res, (hR res).2 rfl, hfr c⟩, fun r hr _ => by rw [(hR r).1 hr]; exact k⟩
theorem mkServer_tags (k : Int) (s : TServer) : tags (mkServer k s).inn = tags s.inn := by
  have eT : ∀ X Y : List AObj, tags (X ++ Y) = tags X ++ tags Y := fun X Y => by simp [tags]
  unfold TServer.inn
  simp only [eT, mkServer]
  rw [tags_wood (inn := noInn) (mk := mkFile) (cnt := cFile) (fun _ _ => rfl), tags_wood (mk := mkLine) (cnt := cLine) mkLine_tags, tags_wood (inn := noInn) (mk := mkSession) (cnt := cSession) (fun _ _ => rfl), tags_wood (mk := mkJob) (cnt := cJob) mkJob_tags, tags_wood (mk := mkWorker) (cnt := cWorker) mkWorker_tags, tags_wood (mk := mkAnswer) (cnt := cAnswer) mkAnswer_tags]
theorem mkServer_len (k : Int) (s : TServer) : (mkServer k s).inn.length = s.inn.length := by
  have := congrArg List.length (mkServer_tags k s)
  simpa [tags] using this
theorem mkServer_encO (k : Int) (s : TServer) : (mkServer k s).encO = s.encO := by simp [TServer.encO, mkServer, SL.marks_ref]
theorem markServer_at {s : TServer} (hz : szL cFile s.Files.list ≤ 8388608 ∧ szL cLine s.Lines.list ≤ 8388608 ∧ szL cSession s.Sessions.list ≤ 8388608 ∧ szL cJob s.Queue.list ≤ 8388608 ∧ szL cWorker s.Workers.list ≤ 8388608 ∧ szL cAnswer s.Done.list ≤ 8388608) (hw : ∀ x, x ∈ s.Lines.list → x.Words.list.length ≤ 1048576)
    {A C H X : List AObj} {c : Nat} {K : AV → List AObj → Nat → Prop} (hH : H = A ++ (s.inn ++ C)) (hX : A ++ ((mkServer 1 s).inn ++ C) = X) (k : ∀ c', c ≤ c' → K (.int .i64 (1 + cServer s)) X c') : CallW Tryd.prog 48 [.agg s.encO, .int .i64 1] H c K := by
  rw [hH, ← List.append_assoc]
  refine call_mid (markServer_con hz hw (k := 1) ⟨by omega, by omega⟩ c) (Views.refl _ _) fun r B' c' hc ⟨h1, h2⟩ => ?_
  subst h1; subst h2
  exact ⟨mkServer_tags _ _, .int, fun o ho => TServer.freeI _ o ho _, by rw [List.append_assoc, hX]; exact k c' hc⟩

/-! ### what a server's tree hangs on -/
theorem wood_from {α : Type} {enc encO : α → List AV} {inn : α → List AObj} {w c : Nat} {s : SL α} (hx : ∀ x, (∀ t, t ∈ tags (inn x) → c ≤ t) → ∀ a, a ∈ enc x → From c a) (ht : ∀ t, t ∈ tags (s.wood w encO inn) → c ≤ t) : From c (s.av w enc) := by
  cases s with
  | nil => exact from_nsl c
  | mk t l =>
    have ht' : ∀ u, u ∈ t :: tags (l.flatMap inn) → c ≤ u := ht
    refine from_slc (ht' t (List.mem_cons_self ..)) fun row hr a ha => ?_
    obtain ⟨x, hxl, rfl⟩ := List.mem_map.1 hr
    refine hx x (fun u hu => ht' u (List.mem_cons_of_mem _ ?_)) a ha
    obtain ⟨o, ho, rfl⟩ := of_mem_tags hu
    exact mem_tags (List.mem_flatMap.2 ⟨x, hxl, ho⟩)
theorem tags_app (X Y : List AObj) : tags (X ++ Y) = tags X ++ tags Y := by simp [tags]
theorem job_from {c : Nat} (x : TJob) (h : ∀ t, t ∈ tags x.inn → c ≤ t) : ∀ a, a ∈ x.enc → From c a := fun a ha => by
  simp only [TJob.inn, tags_app, List.mem_append] at h
  simp only [TJob.enc, List.mem_cons, List.not_mem_nil, or_false] at ha
  rcases ha with rfl | rfl | rfl | rfl | rfl
  · simp
  · simp
  · exact flat_from TPair.flat fun t ht => h t (.inl ht)
  · exact flat_from TPair.flat fun t ht => h t (.inr ht)
  · simp
theorem worker_from {c : Nat} (x : TWorker) (h : ∀ t, t ∈ tags x.inn → c ≤ t) : ∀ a, a ∈ x.enc → From c a := fun a ha => by
  simp only [TWorker.inn, tags_app, List.mem_append] at h
  simp only [TWorker.enc, List.mem_cons, List.not_mem_nil, or_false] at ha
  rcases ha with rfl | rfl | rfl | rfl | rfl | rfl | rfl | rfl | rfl
  · simp
  · simp
  · simp
  · exact flat_from TPair.flat fun t ht => h t (.inl ht)
  · exact flat_from TPair.flat fun t ht => h t (.inr (.inl ht))
  · simp
  · simp
  · exact flat_from TFile.flat fun t ht => h t (.inr (.inr ht))
  · simp
theorem answer_from {c : Nat} (x : TAnswer) (h : ∀ t, t ∈ tags x.inn → c ≤ t) : ∀ a, a ∈ x.enc → From c a := fun a ha => by
  simp only [TAnswer.inn, tags_app, List.mem_append] at h
  simp only [TAnswer.enc, List.mem_cons, List.not_mem_nil, or_false] at ha
  rcases ha with rfl | rfl | rfl | rfl | rfl | rfl | rfl | rfl | rfl | rfl | rfl
  · simp
  · simp
  · exact flat_from TFile.flat fun t ht => h t (.inl ht)
  · simp
  · exact flat_from TPair.flat fun t ht => h t (.inr (.inl ht))
  · exact flat_from TPair.flat fun t ht => h t (.inr (.inr (.inl ht)))
  · simp
  · simp
  · exact flat_from THeader.flat fun t ht => h t (.inr (.inr (.inr ht)))
  · simp
  · simp
theorem server_from {c : Nat} {s : TServer} (h : ∀ t, t ∈ tags s.inn → c ≤ t) : From c (.agg s.enc) := from_agg fun a ha => by
  simp only [TServer.inn, tags_app, List.mem_append] at h
  simp only [TServer.enc, List.mem_cons, List.not_mem_nil, or_false] at ha
  rcases ha with rfl | rfl | rfl | rfl | rfl | rfl | rfl | rfl
  · exact flat_from TFile.flat fun t ht => h t (.inl ht)
  · exact line_from fun t ht => h t (.inr (.inl ht))
  · exact flat_from TSession.flat fun t ht => h t (.inr (.inr (.inl ht)))
  · exact wood_from job_from fun t ht => h t (.inr (.inr (.inr (.inl ht))))
  · exact wood_from worker_from fun t ht => h t (.inr (.inr (.inr (.inr (.inl ht)))))
  · exact wood_from answer_from fun t ht => h t (.inr (.inr (.inr (.inr (.inr ht)))))
  · simp
  · simp
theorem view_agg {S : List AObj} {l l' : List AV} (h : Views S l l') (hc : ∀ a, a ∈ l' → a.cell = true) : View S (.agg l) (.agg l') := .agg h.spec.1 (fun j a ha => hc a (List.mem_of_getElem? ha)) h.spec.2
theorem cell_rf {α : Type} (w : Nat) (s : SL α) : (s.ref w).cell = true := by cases s <;> rfl
theorem TServer.cellsO (s : TServer) : ∀ a, a ∈ s.encO → a.cell = true := fun a ha => by
  simp [TServer.encO] at ha
  rcases ha with rfl | rfl | rfl | rfl | rfl | rfl | rfl | rfl <;> first | rfl | exact cell_rf _ _
theorem TRequest.cellsO (s : TRequest) : ∀ a, a ∈ s.encO → a.cell = true := fun a ha => by
  simp [TRequest.encO] at ha
  rcases ha with rfl | rfl | rfl <;> first | rfl | exact cell_rf _ _
theorem TWorker.cellsO (s : TWorker) : ∀ a, a ∈ s.encO → a.cell = true := fun a ha => by
  simp [TWorker.encO] at ha
  rcases ha with rfl | rfl | rfl | rfl | rfl | rfl | rfl | rfl | rfl <;> first | rfl | exact cell_rf _ _
theorem TAnswer.cellsO (s : TAnswer) : ∀ a, a ∈ s.encO → a.cell = true := fun a ha => by
  simp [TAnswer.encO] at ha
  rcases ha with rfl | rfl | rfl | rfl | rfl | rfl | rfl | rfl | rfl | rfl | rfl <;> first | rfl | exact cell_rf _ _
/-- A server and a word, handed back as0 objects. -/
def SrvQ (ok : Bool) (s : TServer) (r : AV) (O : List AObj) : Prop := ∃ b : TServer, r = .tup [.agg b.encO, .bool ok] ∧ O = b.inn ∧ b.con = s.con
theorem srv_tr {P : Program} {f : Nat} {args : List AV} {ok : Bool} {s : TServer} (h : ∀ c, Con P f args [] c fun r O _ => SrvQ ok s r O) : Tr P f args fun _ r => ∃ b : TServer, r = .tup [.agg b.enc, .bool ok] ∧ b.con = s.con :=
  tr_of h fun c r O c' _ ⟨b, h1, h2, h3⟩ ht => ⟨.tup [.agg b.enc, .bool ok], by rw [h1]; exact view_tup (.cons (view_AServer (by rw [h2]; exact fun _ h => h)) (.cons (.refl _) .nil)), ⟨b, rfl, h3⟩, from_tup fun a ha => by
    rw [h2] at ht
    simp at ha
    rcases ha with rfl | rfl
    · exact server_from ht
    · exact from_bool _ _⟩
end A
end Go.Proofs.YtfcimcoanlgldaaDoor
