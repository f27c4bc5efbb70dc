import Derived.Handed
import Derived.LaidLaws
import Derived.ProofKit
import Derived.Test.YtfcimcoanlgldaaDoorRows
import Derived.OpenShut
import Derived.LaidMore
import Derived.Lay
import Derived.LaidSub
import Derived.SevenTiedAt
import Derived.Stop.Joined
import Derived.Lib.LaidTab
import Derived.Test.YtfcimcoanlgldaaDoorTie
import Derived.Test.YtfcimcoanlgldaaDoorCards
import Derived.Test.YtfcimcoanlgldaaDoorB08

/-
  Headers kept as0 objects: printed by a program (wip/tools/genobj.py). No condition.
-/



namespace Go.Proofs.YtfcimcoanlgldaaDoor
namespace A
set_option linter.unusedVariables false
set_option linter.unusedSimpArgs false
set_option maxRecDepth 100000

theorem call_mid2 {P : Program} {K : AV → List AObj → Nat → Prop} {f : Nat} {l l' : List AV} {a : AObj} {A A2 B C : List AObj} {c : Nat} {Q : AV → List AObj → Nat → Prop} (hf : Con P f l' B c Q) (hv : Views [] l l')
    (k : ∀ r B' c', c ≤ c' → Q r B' c' → tags B' = tags B ∧ Av [] r ∧ (∀ o, o ∈ B' → AvRows [] o) ∧ K r (a :: (A ++ (A2 ++ (B' ++ C)))) c') : CallW P f l (a :: (A ++ (A2 ++ (B ++ C)))) c K := by
  have e : ∀ X : List AObj, a :: (A ++ (A2 ++ (X ++ C))) = a :: ((A ++ A2) ++ (X ++ C)) := fun X => by simp
  rw [e]
  exact call_midr hf hv fun r B' c' hc hq => by rw [← e]; exact k r B' c' hc hq
theorem call_mid3 {P : Program} {K : AV → List AObj → Nat → Prop} {f : Nat} {l l' : List AV} {a : AObj} {A A2 A3 B C : List AObj} {c : Nat} {Q : AV → List AObj → Nat → Prop} (hf : Con P f l' B c Q) (hv : Views [] l l')
    (k : ∀ r B' c', c ≤ c' → Q r B' c' → tags B' = tags B ∧ Av [] r ∧ (∀ o, o ∈ B' → AvRows [] o) ∧ K r (a :: (A ++ (A2 ++ (A3 ++ (B' ++ C))))) c') : CallW P f l (a :: (A ++ (A2 ++ (A3 ++ (B ++ C))))) c K := by
  have e : ∀ X : List AObj, a :: (A ++ (A2 ++ (A3 ++ (X ++ C)))) = a :: ((A ++ (A2 ++ A3)) ++ (X ++ C)) := fun X => by simp
  rw [e]
  exact call_midr hf hv fun r B' c' hc hq => by rw [← e]; exact k r B' c' hc hq
theorem call_mid4 {P : Program} {K : AV → List AObj → Nat → Prop} {f : Nat} {l l' : List AV} {a : AObj} {A A2 A3 A4 B C : List AObj} {c : Nat} {Q : AV → List AObj → Nat → Prop} (hf : Con P f l' B c Q) (hv : Views [] l l')
    (k : ∀ r B' c', c ≤ c' → Q r B' c' → tags B' = tags B ∧ Av [] r ∧ (∀ o, o ∈ B' → AvRows [] o) ∧ K r (a :: (A ++ (A2 ++ (A3 ++ (A4 ++ (B' ++ C)))))) c') : CallW P f l (a :: (A ++ (A2 ++ (A3 ++ (A4 ++ (B ++ C)))))) c K := by
  have e : ∀ X : List AObj, a :: (A ++ (A2 ++ (A3 ++ (A4 ++ (X ++ C))))) = a :: ((A ++ (A2 ++ (A3 ++ A4))) ++ (X ++ C)) := fun X => by simp
  rw [e]
  exact call_midr hf hv fun r B' c' hc hq => by rw [← e]; exact k r B' c' hc hq
theorem THeader.flat : Flat THeader.enc := fun x a ha => by
  simp [THeader.enc] at ha
  rcases ha with rfl | rfl <;> exact ⟨rfl, fun T => by constructor⟩
theorem toHeaderSO {s : SL THeader} (h : szHeaderS s ≤ 1048576) (c : Nat) : Con Tryd.prog 57 [s.av 2 THeader.enc] [] c fun r H' _ => ∃ b : SL THeader, r = b.ref 2 ∧ H' = b.wood 2 THeader.enc noInn ∧ b.list.map THeader.con = s.list.map THeader.con := by
  unfold szHeaderS at h
  exact toSO_fn (g := 118) (z := [.str [], .str []]) (bytes := 32) c57 rfl (fun _ => rfl) (fun _ => rfl) (fun x a ha => (THeader.flat x a ha).2) (fun x o ho => by cases ho) (by omega) (by omega)
    (fun x hx c => (THeader.to_fn (by have := szL_mem (sz := THeader.sz) hx; omega) c).mono fun r H' c' _ ⟨hH, ⟨b, hr, hb⟩, _⟩ => ⟨b, hr, hH, hb⟩) c
def mkHeader (k : Int) (x : THeader) : THeader := ⟨mtext k, mtext (k + 1)⟩
def cHeader (x : THeader) : Nat := 2
theorem markHeader_nil (k : Int) : Fnc Tryd.prog 89 [.nsl, .int .i64 k] (.int .i64 k) := by
  refine fn_of c89 (by simp [F89]) fun c => ?_
  unfold F89
  simp
  refine loop_drop 0 (fun i e H c' => e 0 = .nsl ∧ e 1 = .int .i64 k ∧ e 5 = .int .i64 0 ∧ H = []) ⟨rfl, rfl, rfl, rfl⟩ ?_
  intro i e H c hi ⟨e0, e1, e5, hH⟩ N hN
  subst hH
  simp [e0, e1, e5]
  exact fin_plain ⟨rfl, rfl⟩
theorem szL_cHeader (l : List THeader) : l.length ≤ szL cHeader l := by
  induction l with
  | nil => simp
  | cons x l ih => simp [szL, cHeader] at ih ⊢; omega
theorem szL_eHeader (l : List THeader) : szL cHeader l = 2 * l.length := by
  show szL (fun _ => 2) l = _
  rw [szL_const]
theorem markHeader_con1 {l : List THeader} (hz : szL cHeader l ≤ 16777216) {k : Int} (hk : 0 ≤ k ∧ k ≤ 1099511627776) (t c : Nat) :
    Con Tryd.prog 89 [.ref 0 t 2 l.length, .int .i64 k] ([⟨false, t, 2, l.map THeader.enc⟩]) c fun r H' _ => r = .int .i64 (k + szL cHeader l) ∧ H' = [⟨false, t, 2, (mks mkHeader cHeader k l).map THeader.enc⟩] := by
  have hln := szL_cHeader l
  refine con_of c89 (by simp [F89]) ?_
  unfold F89
  simp
  refine loop_drop l.length (fun i e H c' => e 0 = .ref 0 t 2 l.length ∧ e 1 = .int .i64 (k + szL cHeader (l.take i)) ∧ e 5 = .int .i64 i ∧ H = [⟨false, t, 2, (mixed mkHeader cHeader k l i).map THeader.enc⟩]) ⟨rfl, by simp [szL], rfl, by rw [mixed_zero]⟩ ?_
  intro i e H c hi ⟨e0, e1, e5, hH⟩ N hN
  subst hH
  have hs := mixed_set mkHeader cHeader k l (i := i)
  have hst := fun h : i < l.length => szL_step cHeader l h
  have hle := szL_le cHeader l i
  have hle1 := szL_le cHeader l (i + 1)
  generalize hjj : k + (szL cHeader (l.take i) : Int) = j at e1 hs
  simp [e0, e1, e5]
  refine ⟨fun h => ?_, fun h => ?_⟩
  · have hs := hs h
    have hst := hst h
    have hg := mixed_get mkHeader cHeader k l h
    have hx := szL_mem (sz := cHeader) (List.getElem_mem h)
    generalize l[i] = x at hs hst hg hx
    simp only [cHeader] at hx hst
    have w0 : IntKind.i64.wrap (j + 1) = j + 1 := wrap64 (by omega) (by omega)
    have w1 : IntKind.i64.wrap (j + 1 + 1) = j + 1 + 1 := wrap64 (by omega) (by omega)
    refine call_fn0 (mtext_fn (by omega)) .str fun _ _ => ?_
    simp [e0, e1, e5, h]
    refine ⟨_, hg, ?_⟩
    simp [e0, e1, e5, h, mixed_len, w0, w1, putA, THeader.enc]
    refine call_fn0 (mtext_fn (by omega)) .str fun _ _ => ?_
    simp [e0, e1, e5, h, mixed_len, w0, w1, putA, THeader.enc]
    refine hN _ _ _ _ h (List.Sublist.refl _) ⟨by simp [upd, e0], ?_, by simp [upd]; exact step64 (by unfold mx; omega) h, ?_⟩
    · simp [upd, w0, w1, hst]; omega
    · rw [← hs, List.map_set]
      simp [mkHeader, THeader.enc, w0, w1]
  · have h1 : i = l.length := by omega
    subst h1
    refine fin_all ⟨?_, ?_⟩
    · rw [← hjj]; simp
    · rw [mixed_all]
theorem markHeader_con {s : SL THeader} (hz : szL cHeader s.list ≤ 16777216) {k : Int} (hk : 0 ≤ k ∧ k ≤ 1099511627776) (c : Nat) :
    Con Tryd.prog 89 [s.ref 2, .int .i64 k] (s.wood 2 THeader.enc noInn) c fun r H' _ => r = .int .i64 (k + szL cHeader s.list) ∧ H' = (s.marks mkHeader cHeader k).wood 2 THeader.enc noInn := by
  cases s with
  | nil =>
    have := markHeader_nil k c
    simpa [SL.ref, SL.wood, SL.marks, szL] using this
  | mk t l =>
    have := markHeader_con1 (l := l) hz hk t c
    simpa [SL.ref, SL.wood, SL.marks, wood_flat] using this
end A
end Go.Proofs.YtfcimcoanlgldaaDoor

/-
  What reads the marks on headers: printed by a program (wip/tools/genobj.py). No condition.
-/

namespace Go.Proofs.YtfcimcoanlgldaaDoor
namespace A
set_option linter.unusedVariables false
set_option linter.unusedSimpArgs false
set_option maxRecDepth 100000

theorem heldHeader_nil (k : Int) : Fnc Tryd.prog 90 [.nsl, .int .i64 k] (.int .i64 k) := by
  refine fn_of c90 (by simp [F90]) fun c => ?_
  unfold F90
  simp
  refine loop_drop 0 (fun i e H c' => e 0 = .nsl ∧ e 1 = .int .i64 k ∧ e 5 = .int .i64 0 ∧ H = []) ⟨rfl, rfl, rfl, rfl⟩ ?_
  intro i e H c hi ⟨e0, e1, e5, hH⟩ N hN
  subst hH
  simp [e0, e1, e5]
  exact fin_plain ⟨rfl, rfl⟩
set_option maxHeartbeats 4000000 in
theorem heldHeader_fn1 {l : List THeader} (hz : szL cHeader l ≤ 16777216) {k : Int} (hk : 0 ≤ k ∧ k ≤ 1099511627776) (t : Nat) :
    Fnc Tryd.prog 90 [(SL.mk t (mks mkHeader cHeader k l)).av 2 THeader.enc, .int .i64 k] (.int .i64 (k + szL cHeader l)) := by
  have hln := szL_cHeader l
  refine fn_of c90 (by simp [F90]) fun c => ?_
  unfold F90
  simp
  have hlen := mks_len mkHeader cHeader k l
  refine loop_drop l.length (fun i e H c' => e 0 = (SL.mk t (mks mkHeader cHeader k l)).av 2 THeader.enc ∧ e 1 = .int .i64 (k + szL cHeader (l.take i)) ∧ e 5 = .int .i64 i ∧ H = []) ⟨rfl, by simp [szL], rfl, rfl⟩ ?_
  intro i e H c hi ⟨e0, e1, e5, hH⟩ N hN
  subst hH
  have hg := fun h : i < l.length => mks_get mkHeader cHeader k l h
  have hst := fun h : i < l.length => szL_step cHeader l h
  have hle := szL_le cHeader l i
  have hle' := szL_le cHeader l (i + 1)
  generalize hjj : k + (szL cHeader (l.take i) : Int) = j at e1 hg
  simp [e0, e1, e5, hlen]
  refine ⟨fun h => ?_, fun h => ?_⟩
  · have hg := hg h
    have hst := hst h
    have hx := szL_mem (sz := cHeader) (List.getElem_mem h)
    generalize l[i] = x at hg hst hx
    simp only [cHeader] at hx hst
    have w0 : IntKind.i64.wrap (j + 1) = j + 1 := wrap64 (by omega) (by omega)
    have f0 : (mkHeader j x).Name = mtext (j) := rfl
    have w1 : IntKind.i64.wrap (j + 1 + 1) = j + 1 + 1 := wrap64 (by omega) (by omega)
    have f1 : (mkHeader j x).Value = mtext (j + 1) := rfl
    refine ⟨_, hg, ?_⟩
    simp [e0, e1, e5, h, w0, w1, f0, f1]
    refine callF_fn0 (mtext_fn (by omega)) .str fun _ _ => ?_
    simp [e0, e1, e5, h, w0, w1, f0, f1]
    refine ⟨_, hg, ?_⟩
    simp [e0, e1, e5, h, w0, w1, f0, f1]
    refine callF_fn0 (mtext_fn (by omega)) .str fun _ _ => ?_
    simp [e0, e1, e5, h, w0, w1, f0, f1]
    refine hN _ _ _ _ h (List.Sublist.refl _) ⟨by simp [upd, e0], ?_, by simp [upd]; exact step64 (by unfold mx; omega) h, rfl⟩
    simp [upd, w0, w1, hst]; omega
  · have h1 : i = l.length := by omega
    subst h1
    refine fin_plain ⟨?_, rfl⟩
    rw [← hjj]; simp
theorem heldHeader_fn {s : SL THeader} (hz : szL cHeader s.list ≤ 16777216) {k : Int} (hk : 0 ≤ k ∧ k ≤ 1099511627776) :
    Fnc Tryd.prog 90 [(s.marks mkHeader cHeader k).av 2 THeader.enc, .int .i64 k] (.int .i64 (k + szL cHeader s.list)) := by
  cases s with
  | nil =>
    have := heldHeader_nil k
    simpa [SL.av, SL.marks, szL] using this
  | mk t l => exact heldHeader_fn1 (l := l) hz hk t
end A
end Go.Proofs.YtfcimcoanlgldaaDoor

/-
  ParseResponse: the law answers true. No condition.
-/

namespace Go.Proofs.YtfcimcoanlgldaaDoor
namespace A
set_option linter.unusedVariables false
set_option linter.unusedSimpArgs false
set_option maxRecDepth 100000

/-! ### a response kept as0 objects -/
@[simp] theorem TResponse.lenO (s : TResponse) : s.encO.length = 3 := (rfl)
@[simp] theorem TResponse.allO (s : TResponse) : s.encO.take 3 = s.encO := (rfl)
@[simp] theorem TResponse.o0 (s : TResponse) (K : AV → Prop) : getW s.encO 0 K = K (.int .i64 s.Code) := by simp [TResponse.encO]
@[simp] theorem TResponse.o1 (s : TResponse) (K : AV → Prop) : getW s.encO 1 K = K (s.Headers.ref 2) := by simp [TResponse.encO]
@[simp] theorem TResponse.o2 (s : TResponse) (K : AV → Prop) : getW s.encO 2 K = K (.str s.Body) := by simp [TResponse.encO]
theorem TResponse.freeO : ∀ (x : TResponse) a, a ∈ x.encO → Free a := fun x a ha => by
  simp [TResponse.encO] at ha
  rcases ha with rfl | rfl | rfl
  · exact free_int _ _
  · exact free_ref _ _
  · exact free_str _
theorem TResponse.freeI : ∀ (x : TResponse) o, o ∈ x.inn → ∀ T, AvRows T o := fun x o ho => flat_free THeader.flat _ _ o ho
theorem view_AResponse {S : List AObj} {s : TResponse} (hs : ∀ o, o ∈ s.inn → o ∈ S) : View S (.agg s.encO) (.agg s.enc) :=
  viewA (.cons (.refl _) (.cons (view_flat hs THeader.flat.cells) (.cons (.refl _) .nil))) (TResponse.cells s)

/-! ### marks on a response -/
theorem mark_inA {α : Type} {P : Program} {f w : Nat} {encO : α → List AV} {inn : α → List AObj} {mk : Int → α → α} {cnt : α → Nat} {K : AV → List AObj → Nat → Prop} {A C : List AObj} {s : SL α} {k n : Int} {c : Nat}
    (hf : Con P f [s.ref w, .int .i64 k] (s.wood w encO inn) c fun r H' _ => r = .int .i64 n ∧ H' = (s.marks mk cnt k).wood w encO inn)
    (hi : ∀ k x, tags (inn (mk k x)) = tags (inn x)) (hO : ∀ x a, a ∈ encO x → Free a) (hI : ∀ x o, o ∈ inn x → ∀ T, AvRows T o) {H X : List AObj} {B : AObj} (hH : H = A ++ (s.wood w encO inn ++ C)) (hX : A ++ ((s.marks mk cnt k).wood w encO inn ++ C) = X ++ [B]) (kk : ∀ c', c ≤ c' → K (.int .i64 n) (X ++ [B]) c') :
    CallW P f [s.ref w, .int .i64 k] H c K := by
  rw [hH, ← List.append_assoc]
  exact mark_mid hf hi hO hI fun c' h => by rw [List.append_assoc, hX]; exact kk c' h
theorem marks_wood_len {α : Type} {w : Nat} {encO : α → List AV} {inn : α → List AObj} {mk : Int → α → α} {cnt : α → Nat} (hi : ∀ k x, tags (inn (mk k x)) = tags (inn x)) (k : Int) (s : SL α) : ((s.marks mk cnt k).wood w encO inn).length = (s.wood w encO inn).length := by
  have := congrArg List.length (tags_wood (w := w) (encO := encO) (cnt := cnt) hi k s)
  simpa [tags] using this
theorem getW_endN {α : Type} {X : List α} {B : α} {n : Nat} (h : X.length = n) (K : α → Prop) : getW (X ++ [B]) n K = K B := getW_of (by rw [List.getElem?_append_right (by omega)]; simp [h]) K
def mkResponse (k : Int) (s : TResponse) : TResponse := { s with Headers := s.Headers.marks mkHeader cHeader k }
def cResponse (s : TResponse) : Nat := szL cHeader s.Headers.list
theorem mkResponse_tags (k : Int) (s : TResponse) : tags (mkResponse k s).inn = tags s.inn := by
  unfold TResponse.inn
  simp only [mkResponse]
  rw [flat_marks (enc := THeader.enc) (w := 2) mkHeader cHeader]
theorem markResponse_con {s : TResponse} (hz : szL cHeader s.Headers.list ≤ 8388608) {k : Int} (hk : 0 ≤ k ∧ k ≤ 1048576) (c : Nat) :
    Con Tryd.prog 42 [.agg s.encO, .int .i64 k] s.inn c fun r O _ => r = .int .i64 (k + cResponse s) ∧ O = (mkResponse k s).inn := by
  refine con_of c42 (by simp [F42]) ?_
  unfold F42
  simp
  generalize hn : s.inn.length = n
  unfold TResponse.inn at hn ⊢
  have l0 := marks_wood_len (w := 2) (encO := THeader.enc) (inn := noInn) (mk := mkHeader) (cnt := cHeader) (fun _ _ => rfl) k s.Headers
  obtain ⟨X0, hX0⟩ : ∃ X : List AObj, X = ((s.Headers.marks mkHeader cHeader k).wood 2 THeader.enc noInn) := ⟨_, rfl⟩
  have hl0 : X0.length = n := by rw [hX0]; omega
  refine mark_inA (A := []) (C := [(⟨false, c, 3, [s.encO]⟩ : AObj)]) (markHeader_con (s := s.Headers) (by omega) (k := k) ⟨by omega, by omega⟩ _) (fun _ _ => rfl) (fun x a ha => (THeader.flat x a ha).2) (fun x o ho => by cases ho) (X := X0) (B := ⟨false, c, 3, [s.encO]⟩) (by simp) (by rw [hX0]; simp) fun c0 _ => ?_
  simp [getW_endN hl0]
  refine fin_sub (Hk := X0) (List.sublist_append_left _ _) (.refl _) ⟨?_, ?_⟩
  · simp [cResponse]
  · rw [hX0]; rfl
theorem heldResponse_fn {s : TResponse} (hz : szL cHeader s.Headers.list ≤ 8388608) {k : Int} (hk : 0 ≤ k ∧ k ≤ 1048576) :
    Fnc Tryd.prog 43 [.agg (mkResponse k s).enc, .int .i64 k] (.int .i64 (k + cResponse s)) := by
  refine fn_of c43 (by simp [F43]) fun c => ?_
  unfold F43
  have f1 : (mkResponse k s).Headers = s.Headers.marks mkHeader cHeader k := rfl
  have p1 : ¬ (k + szL cHeader s.Headers.list < 0) := by omega
  simp [f1]
  refine call_fn0 (heldHeader_fn (s := s.Headers) (by omega) (k := k) ⟨by omega, by omega⟩) .int fun _ _ => ?_
  simp [f1, p1]
  exact fin_plain ⟨by simp [cResponse], rfl⟩
theorem view_mResp {S : List AObj} {s : TResponse} {k : Int} (hs : ∀ o, o ∈ (mkResponse k s).inn → o ∈ S) : View S (.agg s.encO) (.agg (mkResponse k s).enc) := by
  have e : s.encO = (mkResponse k s).encO := by unfold TResponse.encO mkResponse; simp [SL.marks_ref]
  rw [e]
  exact view_AResponse hs

/-! ### the law -/
theorem outI_sz (s : List UInt8) (hl : s.length ≤ 1048576) : (outI s).sz ≤ 1048576 := by
  unfold outI
  split
  · rename_i h
    have h2 : 2 ≤ (rdLines s).length := by
      unfold okI at h
      simp only [Bool.and_eq_true, decide_eq_true_eq] at h
      exact h.1.1.2
    have h3 := rd_sz h2
    show szHeaderS (.mk 0 (rdHdrs s)) + (rdBody s).length ≤ _
    unfold szHeaderS
    simp only [SL.list_mk]
    omega
  · show 0 + 0 ≤ _
    omega
theorem rp_small {s : List UInt8} (hl : s.length ≤ 1048576) {b : TResponse} (h : b.con = (outI s).con) : b.sz ≤ 1048576 ∧ szL cHeader b.Headers.list ≤ 8388608 := by
  have h1 : b.sz = (outI s).sz := by rw [← TResponse.sz_con, h, TResponse.sz_con]
  have h2 := outI_sz s hl
  have h3 : b.sz = b.Headers.list.length + szL THeader.sz b.Headers.list + b.Body.length := rfl
  rw [szL_eHeader]
  omega
theorem impl_tr {s : List UInt8} (hl : s.length ≤ 1048576) : Tr Tryd.prog 41 [.str s] fun _ r => ∃ b : TResponse, r = .tup [.agg b.enc, .bool (okI s)] ∧ b.con = (outI s).con :=
  tr_of (impl_parseR hl) fun c r O c' _ ⟨b, h1, h2, h3⟩ ht => ⟨.tup [.agg b.enc, .bool (okI s)], by rw [h1]; exact view_tup (.cons (view_AResponse fun o ho => h2 ▸ ho) (Views.refl _ _)), ⟨b, rfl, h3⟩, from_tup fun a ha => by
    rcases List.mem_cons.1 ha with rfl | ha
    · refine from_agg fun a ha => ?_
      simp [TResponse.enc] at ha
      rcases ha with rfl | rfl | rfl
      · simp
      · exact flat_from THeader.flat fun u hu => ht u (by rw [h2]; exact hu)
      · simp
    · simp at ha; subst ha; simp⟩
theorem spec_tr {s : List UInt8} (hl : s.length ≤ 1048576) : Tr Tryd.prog 40 [.str s] fun _ r => ∃ b : TResponse, r = .tup [.agg b.enc, .bool (okS s)] ∧ b.con = (outS s).con :=
  tr_of (spec_parseR hl) fun c r O c' _ ⟨b, h1, h2, h3⟩ ht => ⟨_, h1, ⟨b, rfl, h2⟩, from_tup fun a ha => by
    rcases List.mem_cons.1 ha with rfl | ha
    · refine from_agg fun a ha => ?_
      simp [TResponse.enc] at ha
      rcases ha with rfl | rfl | rfl
      · simp
      · rcases h3 with h3 | ⟨t, l, h3, h4⟩
        · rw [h3]; exact from_nsl c
        · rw [h3]
          refine from_slc (ht t h4) fun row hr y hy => ?_
          obtain ⟨h, _, rfl⟩ := List.mem_map.1 hr
          simp [THeader.enc] at hy
          rcases hy with rfl | rfl <;> simp
      · simp
    · simp at ha; subst ha; simp⟩
theorem law_parseResp {s : List UInt8} (hmx : s.length ≤ mx) (c : Nat) : Con Tryd.prog 10 [.str s] [] c fun r H' _ => r = .bool true ∧ H' = [] := by
  refine con_of c10 (by simp [F10]) ?_
  unfold F10
  simp
  refine ⟨fun _ => fin_plain ⟨rfl, rfl⟩, fun h => ?_⟩
  have hl : s.length ≤ 1048576 := by omega
  obtain ⟨ho, hcon⟩ := resp_alike s
  refine call_tree0 (spec_tr hl) fun r1 _ _ ⟨w, e1, q1⟩ _ => ?_
  subst e1
  rw [← ho]
  rw [← hcon] at q1
  simp [putA]
  refine call_new (impl_parseR hl _) (Views.refl _ _) fun r2 O c3 hc3 ⟨g, e2, hO, q2⟩ _ _ => ?_
  subst e2; subst hO
  refine ⟨_, .refl _, free_tup (by simp [free_bool, free_agg (TResponse.freeO g)]) _, fun o ho => TResponse.freeI _ o ho _, ?_⟩
  simp [putA]
  obtain ⟨z1, z2⟩ := rp_small hl q2
  have hk : ¬ ((1 : Int) + (cResponse g : Int) < 0) := by omega
  refine call_fn (TResponse.eq_fn (a := g) (b := w) (by omega) (q2.trans q1.symm)) (.cons (view_AResponse (fun o ho => by simp [ho])) (.cons (.refl _) .nil)) .bool fun _ _ => ?_
  simp [putA]
  refine call_midr (A := []) (B := g.inn) (markResponse_con (s := g) z2 (k := 1) ⟨by omega, by omega⟩ _) (Views.refl _ _) fun r B' c6 _ ⟨p1, p2⟩ => ?_
  subst p1; subst p2
  refine ⟨mkResponse_tags _ _, .int, fun o ho => TResponse.freeI _ o ho _, ?_⟩
  have hln : (mkResponse 1 g).inn.length = g.inn.length := by
    have := congrArg List.length (mkResponse_tags 1 g)
    simpa [tags] using this
  have ga : ∀ (B : AObj) (M : List AObj) (K : AObj → Prop), getW ((mkResponse 1 g).inn ++ B :: M) g.inn.length K = K B := fun B M K => getW_of (by rw [List.getElem?_append_right (by omega), hln]; simp) K
  have gb : ∀ (B C : AObj) (M : List AObj) (K : AObj → Prop), getW ((mkResponse 1 g).inn ++ B :: C :: M) (g.inn.length + 1) K = K C := fun B C M K => getW_of (by rw [List.getElem?_append_right (by omega), hln]; simp) K
  simp [ga, putA]
  refine call_fn (heldResponse_fn (s := g) z2 (k := 1) ⟨by omega, by omega⟩) (.cons (view_mResp (fun o ho => by simp [ho])) (.cons (.refl _) .nil)) .int fun _ _ => ?_
  simp [hk]
  refine call_tree0 (impl_tr hl) fun r3 _ _ ⟨y, e3, q3⟩ _ => ?_
  subst e3
  obtain ⟨y1, y2⟩ := rp_small hl q3
  simp [hk, ga, gb, putA, hln]
  refine call_fn0 (TResponse.eq_fn (a := y) (b := w) (by omega) (q3.trans q1.symm)) .bool fun _ _ => ?_
  simp [hk, ga, gb, putA, hln]
  refine call_fn (heldResponse_fn (s := g) z2 (k := 1) ⟨by omega, by omega⟩) (.cons (view_mResp (fun o ho => by simp [ho])) (.cons (.refl _) .nil)) .int fun _ _ => ?_
  simp [hk]
  exact fin_plain ⟨rfl, rfl⟩
end A
end Go.Proofs.YtfcimcoanlgldaaDoor

/-
  The wrap of a row that lists package variables, the world's shape kept. No condition.
-/


namespace Go.Proofs.YtfcimcoanlgldaaDoor
namespace A
open Go.RowKit
set_option linter.unusedVariables false
section
variable {H : Type} {enc : TypeId × Value → H}
theorem returns_shaped {a : Assume} {C : Checked} {os : Os} {f : FuncId} {fn : Func} {s : ChangeSpec} {conds : List PathCond} {apart fresh handsOn again : Bool} {X : World → Array Value → Prop}
    (hX : ∀ (w w' : World) (args : Array Value), w.heap = w'.heap → X w args → X w' args)
    (own : ownKnob C.prog.godebug = none) (started : os.Started) (noInit : C.prog.inits.idxOf? f = none) (hfn : C.prog.funcs[f]? = some fn)
    (witness : ∃ (w : World) (tape : Tape) (i : Input), w.os = os ∧ (w.forCall tape i).Shaped C.prog ∧ i.vars = [] ∧ Input.okWide C.prog (w.forCall tape i) .any w.heap.size f i ∧
      ((s.pre enc C.prog fn conds apart (w.forCall tape i).memory i.args ∧ X (w.forCall tape i).memory i.args) ∧ sizedMet enc C.prog fn (OpenSpec.ofChange s) apart (w.forCall tape i).memory i.args) ∧ a.holds C.prog (lone (Frame.enter C.prog f i.args .normal) [] (w.forCall tape i)))
    (contract : ∀ (W : World) (base : Nat) (args : Array Value) (ds gs : List (DataW H)) (before : List MemPlace),
      (∀ (j : Nat) t v, fn.params[j]? = some t → args[j]? = some v → Value.okWide C.prog W .any base t v) →
      DataW.Whole enc C.prog fn.params.toList s.vars apart W args.toList ds gs before →
      conds.all (PathCond.test C.prog ⟨fn.params.toList, ds, s.plain.varTypes C.prog, gs⟩) = true → X W args → W.ShapedOpen C.prog →
      Calls C.prog f args W fun e W' => ∃ v, e = .returned v ∧ s.post enc C.prog fn apart fresh handsOn again W args v W') :
    ReturnsInHanded a C os f .any (fun w args => (s.pre enc C.prog fn conds apart w args ∧ X w args) ∧ sizedMet enc C.prog fn (OpenSpec.ofChange s) apart w args) (s.post enc C.prog fn apart fresh handsOn again) := by
  refine returnsInHanded_of_calls own started noInit witness ?_
  intro w tape i _ hsh _ hok hpre _
  obtain ⟨_, _, _, fn', hfn', _, _, _, _, hval⟩ := hok
  have e : fn' = fn := Option.some.inj (hfn'.symm.trans hfn)
  subst e
  obtain ⟨⟨⟨ds, gs, before, hw, hc⟩, hx⟩, _⟩ := hpre
  refine (contract (w.forCall tape i) w.heap.size i.args ds gs before hval (DataW.Whole.of_heap (w' := w.forCall tape i) (by rfl) hw) hc (hX _ _ _ (by rfl) hx) hsh).mono fun e W' ⟨v, he, hp⟩ => ?_
  subst he
  exact ChangeSpec.post_blind hp
end
theorem cell_block {w : World} {m : Int} (hm : w.cell? ⟨0, 0, none⟩ = some (.int .i64 m)) : 0 < w.heap.size ∧ ∃ c t fr, w.heap[0]? = some (.cells c t fr) ∧ c[0]? = some (Value.int .i64 m) := by
  rw [cell?_eq] at hm
  unfold hcell at hm
  split at hm
  · rename_i c t fr hc
    exact ⟨(Array.getElem?_eq_some_iff.1 hc).1, c, t, fr, hc, hm⟩
  · cases hm
end A
end Go.Proofs.YtfcimcoanlgldaaDoor

/-
  A variable that is laid as0 an error, as0 it lies in the memory. No condition.
-/




namespace Go.Proofs.YtfcimcoanlgldaaDoor
namespace A
open Go.RowKit
set_option linter.unusedVariables false
theorem iface_of_head {P : Program} {W : World} {name nm : String} {d : DataW Unit} {rest : List (String × DataW Unit)} {g : Nat} {ti : TypeId}
    (hg : P.globalNamed name = some g) (hty : (P.globals[g]?).map (·.type) = some ti) (hi : isIfcT P ti = true) (h : laidMet P ((name, .iface nm d) :: rest) W) :
    ∃ t fr u v, W.heap[g]? = some (.cells #[.iface u v] t fr) := by
  obtain ⟨ps, ⟨g', t', cs, fuel, p, q, hg', ht', hvar, hd, _, _⟩, _⟩ := h
  obtain rfl := Option.some.inj (hg.symm.trans hg')
  obtain rfl := Option.some.inj (hty.symm.trans ht')
  obtain ⟨ms, hms⟩ : ∃ ms, P.underlying ti = some (.interface ms) := by
    unfold isIfcT at hi
    split at hi
    · rename_i ms h; exact ⟨ms, h⟩
    · cases hi
  obtain ⟨_, u, v, hcs, _, _⟩ := iface_of_trod hms hd
  unfold World.var? at hvar
  rw [hg] at hvar
  simp only [Option.bind_some] at hvar
  split at hvar
  · rename_i cs' t fr hc
    cases hvar
    refine ⟨t, fr, u, v, ?_⟩
    rw [hc]
    have : cs = #[.iface u v] := by rw [← Array.toList_inj, hcs]
    rw [this]
  · cases hvar
end A
end Go.Proofs.YtfcimcoanlgldaaDoor

/-
  Facts of the whole program that every row of the seat asks, each worked out once. No condition.
-/


namespace Go.Proofs.YtfcimcoanlgldaaDoor.Closed
open Go.ChangeShapes Go.WideShapes Go.RowKit
theorem heard : Tryd.pinned.checked.prog.stopsHeard = true := by kernel_rfl
theorem enter : Tryd.pinned.checked.prog.mayEnter = true := by kernel_rfl
theorem make : Tryd.pinned.checked.prog.make = some Rows.fnExactFormatResponseRow.make := by kernel_rfl
theorem lifts : Tryd.pinned.checked.prog.liftsFinal = Rows.fnExactFormatResponseRow.lifted := by kernel_rfl
end Go.Proofs.YtfcimcoanlgldaaDoor.Closed

/-
  FnExactParseResponse: the program's and the reference's give the same, for all arguments. No condition.
-/














namespace Go.Proofs.YtfcimcoanlgldaaDoor.fnExactParseResponse
open Go.ChangeShapes Go.WideShapes Go.ChangeAt Go.RowKit
open Go.Proofs.YtfcimcoanlgldaaDoor.A
set_option linter.unusedVariables false

theorem own : ownKnob Tryd.prog.godebug = none := by kernel_rfl

def types : List TypeId := [9, 4]

set_option maxRecDepth 100000 in
theorem lifted (os : Os) (started : os.Started) (H : Type) (enc : TypeId × Value → H) :
    ReturnsInHanded {} Tryd.checked os 10 .any (fun w args => (Rows.fnExactParseResponseSpec.pre enc Tryd.prog Tryd.f10 Rows.fnExactParseResponseRow.domain false w args ∧ laidMetH Tryd.prog Rows.fnExactParseResponseRow.laid w) ∧ sizedMet enc Tryd.prog Tryd.f10 (OpenSpec.ofChange Rows.fnExactParseResponseSpec) false w args) (Rows.fnExactParseResponseSpec.post enc Tryd.prog Tryd.f10 false true false false) := by
  refine A.returns_shaped (C := Tryd.checked) (X := fun w _ => laidMetH Tryd.prog Rows.fnExactParseResponseRow.laid w) (fun _ _ _ hh h => h.of_heap hh) own started (by kernel_rfl) Tryd.func10
    (ChangeSpec.witness_shaped (enc := enc) (C := Tryd.checked) (os := os) (X := fun w _ => laidMetH Tryd.prog Rows.fnExactParseResponseRow.laid w) false (World.laidAll Tryd.prog os Rows.fnExactParseResponseRow.laid) #[.string ⟨#[]⟩] 8 (World.laidAll_os _ _ _)
      (World.shaped_of_ZipB (by kernel_rfl) (by kernel_rfl)) (by kernel_rfl) (by kernel_rfl) (by kernel_rfl)
      (by rw [MakeChecks.laidMetH_plain _ _ _ (by kernel_rfl)]; exact laidMet_laidAll _ (by kernel_rfl) (by kernel_rfl))) ?_
  intro W base args ds gs before hval0 hW hcnd hL hsh
  obtain ⟨m, hm⟩ := Tryd.laysM146.s1_3 W hsh
  have htab : Lib.TabIs Tryd.prog W "internal/strconv.uint64pow10" .u64 Lib.pow10Tab := by
    have h1 := hL.filter fun x => x.1 == "internal/strconv.uint64pow10"
    rw [show (Rows.fnExactParseResponseRow.laid.filter fun x => x.1 == "internal/strconv.uint64pow10") = [("internal/strconv.uint64pow10", Lib.tabData .u64 Lib.pow10Tab)] from by kernel_rfl, MakeChecks.laidMetH_plain _ _ _ (by kernel_rfl)] at h1
    exact Lib.tabIs_of_head (g := 1) (t := 215) (e := 197) (n := 20) (by kernel_rfl) (by kernel_rfl) (by kernel_rfl) (by kernel_rfl) (by kernel_rfl) (by kernel_rfl) h1
  have he4 : ∃ t fr u v, W.heap[4]? = some (.cells #[.iface u v] t fr) := by
    have h1 := hL.filter fun x => x.1 == "strconv.ErrSyntax"
    rw [show (Rows.fnExactParseResponseRow.laid.filter fun x => x.1 == "strconv.ErrSyntax") = [("strconv.ErrSyntax", Rows.laid_strconv_ErrSyntax)] from by kernel_rfl, MakeChecks.laidMetH_plain _ _ _ (by kernel_rfl)] at h1
    exact iface_of_head (ti := 177) (by kernel_rfl) (by kernel_rfl) (by kernel_rfl) h1
  have he5 : ∃ t fr u v, W.heap[5]? = some (.cells #[.iface u v] t fr) := by
    have h1 := hL.filter fun x => x.1 == "strconv.ErrRange"
    rw [show (Rows.fnExactParseResponseRow.laid.filter fun x => x.1 == "strconv.ErrRange") = [("strconv.ErrRange", Rows.laid_strconv_ErrRange)] from by kernel_rfl, MakeChecks.laidMetH_plain _ _ _ (by kernel_rfl)] at h1
    exact iface_of_head (ti := 177) (by kernel_rfl) (by kernel_rfl) (by kernel_rfl) h1
  have hg : ∀ b, b < NB → b < W.heap.size ∧ GL b W.heap[b]? := by
    obtain ⟨h0, c, t, fr, hc, hcm⟩ := cell_block hm
    obtain ⟨t4, fr4, u4, v4, h4⟩ := he4
    obtain ⟨t5, fr5, u5, v5, h5⟩ := he5
    have hs := (Array.getElem?_eq_some_iff.1 h5).1
    unfold Lib.TabIs World.var? at htab
    rw [show Tryd.prog.globalNamed "internal/strconv.uint64pow10" = some 1 by kernel_rfl] at htab
    simp only [Option.bind_some] at htab
    split at htab
    · rename_i cs t1 fr1 hc1
      intro b hb
      have hb6 : b < 6 := hb
      refine ⟨by omega, ?_, ?_, ?_⟩
      · intro e; subst e; exact ⟨c, t, fr, m, hc, hcm⟩
      · intro e; subst e; exact ⟨t1, fr1, by rw [hc1, Option.some.inj htab]⟩
      · rintro (e | e)
        · subst e; exact ⟨_, t4, fr4, .iface u4 v4, h4, rfl, .inr ⟨u4, v4, rfl⟩⟩
        · subst e; exact ⟨_, t5, fr5, .iface u5 v5, h5, rfl, .inr ⟨u5, v5, rfl⟩⟩
    · cases htab
  have hval : ∀ (j : Nat) t v, Tryd.f10.params[j]? = some t → args[j]? = some v → Value.okWide Tryd.prog W .any base t v := hval0
  refine law_post (rs := types) (bt := 4) (by kernel_rfl) (by kernel_rfl) (fun t ht => ?_) Tryd.underlying4 (by kernel_rfl) rfl (fun ds hds => ?_) hW hval (fun l has => ?_) hg
  · rw [Tryd.params10] at ht
    simp at ht
    first
      | (subst ht; exact ⟨by simp [types], by kernel_rfl, of_decide_eq_true (by kernel_rfl)⟩)
      | (rcases ht with rfl | rfl <;> exact ⟨by simp [types], by kernel_rfl, of_decide_eq_true (by kernel_rfl)⟩)
      | (rcases ht with rfl | rfl | rfl <;> exact ⟨by simp [types], by kernel_rfl, of_decide_eq_true (by kernel_rfl)⟩)
      | (rcases ht with rfl | rfl | rfl | rfl <;> exact ⟨by simp [types], by kernel_rfl, of_decide_eq_true (by kernel_rfl)⟩)
      | (rcases ht with rfl | rfl | rfl | rfl | rfl <;> exact ⟨by simp [types], by kernel_rfl, of_decide_eq_true (by kernel_rfl)⟩)
      | (rcases ht with rfl | rfl | rfl | rfl | rfl | rfl <;> exact ⟨by simp [types], by kernel_rfl, of_decide_eq_true (by kernel_rfl)⟩)
  · rw [← Array.length_toList, Tryd.params10] at hds
    match ds, hds with
    | [d0], _ => exact ⟨rfl, rfl, rfl⟩
  · rw [Tryd.params10] at has
    cases has with
    | cons h0 has =>
      cases has
      obtain ⟨n0, h0⟩ := h0
      rw [if_neg (by decide)] at h0
      obtain ⟨s0, rfl, k0⟩ := sh_str (t := 9) (by kernel_rfl) h0
      exact A.law_parseResp k0 _

set_option maxHeartbeats 4000000 in
theorem facts : joinedFacts Tryd.pinned.checked.prog 10 Tryd.f10 Rows.fnExactParseResponseSpec Rows.fnExactParseResponseRow = true := by
  unfold joinedFacts
  rw [Closed.heard, Closed.enter, Closed.lifts, Closed.make]
  simp only [Bool.and_eq_true]
  iterate 6 (refine ⟨?_, by as_aux_lemma => kernel_rfl⟩)
  refine ⟨⟨?_, trivial⟩, trivial⟩
  iterate 23 (refine ⟨?_, by as_aux_lemma => kernel_rfl⟩)
  kernel_rfl
theorem named : Tryd.pinned.checked.prog.funcNamed Rows.fnExactParseResponseRow.func = some 10 := by kernel_rfl
theorem inst : Tryd.f10.isInstance Tryd.pinned.checked.prog Rows.fnExactParseResponseRow.origin Rows.fnExactParseResponseRow.targs := of_decide_eq_true (by kernel_rfl)
theorem wrap : Tryd.f10.isWrapper Tryd.pinned.checked.prog Rows.fnExactParseResponseRow.wrapper Rows.fnExactParseResponseRow.mainSum := by
  unfold Func.isWrapper
  first
    | (rw [if_pos (by decide +kernel)]; kernel_rfl)
    | (rw [if_neg (by decide +kernel)]; exact ⟨rfl, rfl⟩)

theorem over : Rows.fnExactParseResponseRow.holds Tryd.pinned (OpenSpec.ofChange Rows.fnExactParseResponseSpec) :=
  OpenClaim.holds_of_wide 10 Tryd.f10 rfl rfl rfl rfl rfl rfl rfl ⟨rfl, rfl, rfl, rfl, rfl⟩ rfl rfl rfl rfl rfl named Tryd.func10 facts inst wrap
    (fun os started H enc _ => lifted os started H enc)

theorem row : Rows.FnExactParseResponseSaid := over
/-- THE STATEMENT -/
theorem proved : Rows.FnExactParseResponseCardSaid :=
  Claim7.holds_tied_plain_at .later [] [.data, .data, .data, .data, .sentinel, .sentinel, .pinned] true Rows.fnExactParseResponseCard.stood.harness true row (fun _ h => by cases h) (by kernel_rfl) (fun _ h => by cases h) fnExactParseResponse_row_tie rfl ⟨rfl, rfl⟩ (by kernel_rfl) rfl
    (fun f fn hf hfn => by
      obtain rfl : f = 10 := Option.some.inj (named.symm.trans hf) |>.symm
      obtain rfl : fn = Tryd.f10 := (Option.some.inj (Tryd.func10.symm.trans hfn)).symm
      exact ⟨by kernel_rfl, fun j t ht => by
        rw [Tryd.params10] at ht
        have hm : t ∈ [9] := by simpa using Array.mem_of_getElem? ht
        have hall : ([9].all fun u => !Tryd.prog.wantsStandIn u) = true := by kernel_rfl
        exact (show Tryd.prog.wantsStandIn t = false by simpa using List.all_eq_true.1 hall t hm)⟩)
    (by kernel_rfl)
#print axioms proved
end Go.Proofs.YtfcimcoanlgldaaDoor.fnExactParseResponse
