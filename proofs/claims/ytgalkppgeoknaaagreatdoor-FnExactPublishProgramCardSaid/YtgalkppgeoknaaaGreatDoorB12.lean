import Derived.LaidLaws
import Derived.ProofKit
import Derived.Test.YtgalkppgeoknaaaGreatDoorRows
import Derived.OpenShut
import Derived.LaidMore
import Derived.Lay
import Derived.LaidSub
import Derived.SevenTiedAt
import Derived.Stop.Joined
import Derived.Lib.LaidTab
import Derived.Test.YtgalkppgeoknaaaGreatDoorTie
import Derived.Test.YtgalkppgeoknaaaGreatDoorCards
import Derived.Test.YtgalkppgeoknaaaGreatDoorB11

/-
  Values kept as0 objects: marks. No condition.
-/
set_option linter.unusedVariables false
set_option linter.unusedSimpArgs false
namespace Go.Proofs.YtgalkppgeoknaaaGreatDoor
namespace A
set_option linter.unusedVariables false
set_option linter.unusedSimpArgs false
set_option maxRecDepth 100000
def TValue.cR : TValue → Nat
  | .mk _ _ _ _ I => match I with | .nil => 0 | .mk _ xs => (xs.attach.map fun e => 7 + e.1.2.cR).sum
termination_by v => SizeOf.sizeOf v
decreasing_by exact items_lt (I := .mk _ xs) e.2
def cEntry (x : TEntry) : Nat := 7 + x.2.cR
theorem cR_eq (v : TValue) : v.cR = szL cEntry v.Items.list := by
  cases v with
  | mk k n s x I =>
    rw [TValue.cR.eq_def]
    cases I with
    | nil => rfl
    | mk t xs =>
      show (xs.attach.map fun e => 7 + e.1.2.cR).sum = szL cEntry xs
      simp only [szL]
      rw [show (xs.attach.map fun e => 7 + e.1.2.cR) = xs.map cEntry from by
        rw [show (fun e : { x // x ∈ xs } => 7 + e.1.2.cR) = cEntry ∘ Subtype.val from rfl,← List.map_map,List.attach_map_subtype_val]]
theorem cEntry_eq (x : TEntry) : cEntry x = 7 + szL cEntry x.2.Items.list := by
  show 7 + x.2.cR = _
  rw [cR_eq]
def mkEf : Nat → Int → TEntry → TEntry
  | 0,_,x => x
  | n + 1,k,x => (⟨decide ((k).tmod 3 = 0),k + 1,mtext (k + 1 + 1)⟩,.mk (k + 1 + 1 + 1) (k + 1 + 1 + 1 + 1) (mtext (k + 1 + 1 + 1 + 1 + 1)) (k + 1 + 1 + 1 + 1 + 1 + 1) (x.2.Items.marks (mkEf n) cEntry (k + 1 + 1 + 1 + 1 + 1 + 1 + 1)))
theorem mkEf_encO (n : Nat) (k : Int) (x : TEntry) : TEntry.encO (mkEf (n + 1) k x) = [.bool (decide ((k).tmod 3 = 0)),.int .i64 (k + 1),.str (mtext (k + 1 + 1)),.int .i64 (k + 1 + 1 + 1),.int .i64 (k + 1 + 1 + 1 + 1),.str (mtext (k + 1 + 1 + 1 + 1 + 1)),.int .i64 (k + 1 + 1 + 1 + 1 + 1 + 1),x.2.Items.ref 8] := by
  simp [mkEf,TEntry.encO,SL.marks_ref]
theorem mkEf_tags : ∀ (n : Nat) (k : Int) (x : TEntry),tags (TEntry.inn (mkEf n k x)) = tags (TEntry.inn x)
  | 0,_,_ => rfl
  | n + 1,k,x => by
    rw [TEntry.inn_eq,TEntry.inn_eq]
    exact tags_wood (w := 8) (encO := TEntry.encO) (inn := TEntry.inn) (mk := mkEf n) (cnt := cEntry) (mkEf_tags n) _ x.2.Items
theorem szL_cEntry (l : List TEntry) : l.length ≤ szL cEntry l := by
  induction l with
  | nil => simp
  | cons x l ih =>
    have h := cEntry_eq x
    simp only [szL,List.map_cons,List.sum_cons,List.length_cons] at ih ⊢; omega
theorem markEntry_nil (k : Int) : Fnc Tryz.prog 119 [.nsl,.int .i64 k] (.int .i64 k) := by
  refine fn_of c119 (by simp [F119]) fun c => ?_
  unfold F119
  simp
  refine loop_drop 0 (fun i e H c' => e 0 = .nsl ∧ e 1 = .int .i64 k ∧ e 5 = .int .i64 0 ∧ H = []) ⟨rfl,rfl,rfl,rfl⟩ ?_
  intro i e H c hi ⟨e0,e1,e5,hH⟩ N hN
  subst hH
  simp [e0,e1,e5]
  exact fin_plain ⟨rfl,rfl⟩
theorem markEf_conS {n : Nat} (ih : ∀ {l : List TEntry},szL cEntry l ≤ n → ∀ {k : Int},0 ≤ k ∧ k + szL cEntry l ≤ 2199023255552 → ∀ t c,Con Tryz.prog 119 [.ref 0 t 8 l.length,.int .i64 k] (wood t 8 TEntry.encO TEntry.inn l) c fun r H' _ => r = .int .i64 (k + szL cEntry l) ∧ H' = wood t 8 TEntry.encO TEntry.inn (mks (mkEf n) cEntry k l))
    {s : SL TEntry} (hz : szL cEntry s.list ≤ n) {k : Int} (hk : 0 ≤ k ∧ k + szL cEntry s.list ≤ 2199023255552) (c : Nat) :
    Con Tryz.prog 119 [s.ref 8,.int .i64 k] (s.wood 8 TEntry.encO TEntry.inn) c fun r H' _ => r = .int .i64 (k + szL cEntry s.list) ∧ H' = (s.marks (mkEf n) cEntry k).wood 8 TEntry.encO TEntry.inn := by
  cases s with
  | nil =>
    have := markEntry_nil k c
    simpa [SL.ref,SL.wood,SL.marks,szL] using this
  | mk t l => exact ih (l := l) hz hk t c
theorem markEf_con1 {n : Nat} (ih : ∀ {l : List TEntry},szL cEntry l ≤ n → ∀ {k : Int},0 ≤ k ∧ k + szL cEntry l ≤ 2199023255552 → ∀ t c,Con Tryz.prog 119 [.ref 0 t 8 l.length,.int .i64 k] (wood t 8 TEntry.encO TEntry.inn l) c fun r H' _ => r = .int .i64 (k + szL cEntry l) ∧ H' = wood t 8 TEntry.encO TEntry.inn (mks (mkEf n) cEntry k l))
    {l : List TEntry} (hz : szL cEntry l ≤ n + 1) {k : Int} (hk : 0 ≤ k ∧ k + szL cEntry l ≤ 2199023255552) (t c : Nat) :
    Con Tryz.prog 119 [.ref 0 t 8 l.length,.int .i64 k] (wood t 8 TEntry.encO TEntry.inn l) c fun r H' _ => r = .int .i64 (k + szL cEntry l) ∧ H' = wood t 8 TEntry.encO TEntry.inn (mks (mkEf (n + 1)) cEntry k l) := by
  have hln := szL_cEntry l
  have hkz : (0 : Int) ≤ (szL cEntry l : Int) := by omega
  have hlb : l.length ≤ 2199023255552 := by omega
  refine con_of c119 (by simp [F119]) ?_
  unfold F119
  simp
  refine loop_drop l.length (fun i e H c' => e 0 = .ref 0 t 8 l.length ∧ e 1 = .int .i64 (k + szL cEntry (l.take i)) ∧ e 5 = .int .i64 i ∧ H = ⟨false,t,8,(mixed (mkEf (n + 1)) cEntry k l i).map TEntry.encO⟩ :: (mixed (mkEf (n + 1)) cEntry k l i).flatMap TEntry.inn) ⟨rfl,by simp [szL],rfl,by rw [mixed_zero]; rfl⟩ ?_
  intro i e H c hi ⟨e0,e1,e5,hH⟩ N hN
  subst hH
  have hs := mixed_set (mkEf (n + 1)) cEntry k l (i := i)
  have hst := fun h : i < l.length => szL_step cEntry l h
  have hle := szL_le cEntry l i
  have hle1 := szL_le cEntry l (i + 1)
  have hfl := fun h : i < l.length => mixed_flat (mk := (mkEf (n + 1))) (cnt := cEntry) (k := k) (inn := TEntry.inn) h
  have hfl' := fun h : i < l.length => mixed_flat' (mk := (mkEf (n + 1))) (cnt := cEntry) (k := k) (inn := TEntry.inn) h
  generalize hjj : k + (szL cEntry (l.take i) : Int) = j at e1 hs hfl'
  simp [e0,e1,e5]
  refine ⟨fun h => ?_,fun h => ?_⟩
  · have hs := hs h
    have hst := hst h
    have hg := mixed_get (mkEf (n + 1)) cEntry k l h
    have hx := szL_mem (sz := cEntry) (List.getElem_mem h)
    rw [hfl h]
    have hfl' := hfl' h
    generalize l[i] = x at hs hst hg hx hfl'
    generalize (mks (mkEf (n + 1)) cEntry k (l.take i)).flatMap TEntry.inn = PRE at hfl' ⊢
    generalize (l.drop (i + 1)).flatMap TEntry.inn = POST at hfl' ⊢
    rw [cEntry_eq] at hx hst
    have w0 : IntKind.i64.wrap (j + 1) = j + 1 := wrap64 (by omega) (by omega)
    have w1 : IntKind.i64.wrap (j + 1 + 1) = j + 1 + 1 := wrap64 (by omega) (by omega)
    have w2 : IntKind.i64.wrap (j + 1 + 1 + 1) = j + 1 + 1 + 1 := wrap64 (by omega) (by omega)
    have w3 : IntKind.i64.wrap (j + 1 + 1 + 1 + 1) = j + 1 + 1 + 1 + 1 := wrap64 (by omega) (by omega)
    have w4 : IntKind.i64.wrap (j + 1 + 1 + 1 + 1 + 1) = j + 1 + 1 + 1 + 1 + 1 := wrap64 (by omega) (by omega)
    have w5 : IntKind.i64.wrap (j + 1 + 1 + 1 + 1 + 1 + 1) = j + 1 + 1 + 1 + 1 + 1 + 1 := wrap64 (by omega) (by omega)
    have w6 : IntKind.i64.wrap (j + 1 + 1 + 1 + 1 + 1 + 1 + 1) = j + 1 + 1 + 1 + 1 + 1 + 1 + 1 := wrap64 (by omega) (by omega)
    refine ⟨h,x,hg,?_⟩
    simp [e0,e1,e5,h,mixed_len,w0,w1,w2,w3,w4,w5,w6,putA,TEntry.encO,TEntry.inn_eq,TValue.inn]
    refine call_fn0 (mtext_fn (by omega)) .str fun _ _ => ?_
    simp [e0,e1,e5,h,mixed_len,w0,w1,w2,w3,w4,w5,w6,putA,TEntry.encO,TEntry.inn_eq,TValue.inn]
    refine call_fn0 (mtext_fn (by omega)) .str fun _ _ => ?_
    simp [e0,e1,e5,h,mixed_len,w0,w1,w2,w3,w4,w5,w6,putA,TEntry.encO,TEntry.inn_eq,TValue.inn]
    refine call_midr (f := 119) (B := x.2.Items.wood 8 TEntry.encO TEntry.inn) (markEf_conS ih (s := x.2.Items) (by omega) (k := j + 1 + 1 + 1 + 1 + 1 + 1 + 1) ⟨by omega,by omega⟩ _) (Views.refl _ _) fun r B' c' hc ⟨q1,q2⟩ => ?_
    subst q1; subst q2
    refine ⟨tags_wood (w := 8) (encO := TEntry.encO) (inn := TEntry.inn) (mk := mkEf n) (cnt := cEntry) (mkEf_tags n) _ x.2.Items,.int,fun o ho => free_wood TEntry.freeO TEntry.freeI _ o ho _,?_⟩
    simp [e0,e1,e5,h,mixed_len,w0,w1,w2,w3,w4,w5,w6,putA,TEntry.encO,TEntry.inn_eq,TValue.inn]
    refine hN _ _ _ _ h (List.Sublist.refl _) ⟨by simp [upd,e0],?_,by simp [upd]; exact step64 (by unfold mx; omega) h,?_⟩
    · simp [upd,w0,w1,w2,w3,w4,w5,w6,hst]; omega
    · rw [hfl',← hs,List.map_set,mkEf_encO]
      simp [mkEf,TEntry.inn_eq,TValue.inn]
  · have h1 : i = l.length := by omega
    subst h1
    refine fin_all ⟨?_,?_⟩
    · rw [← hjj]; simp
    · rw [mixed_all]; rfl
theorem mark_empty (k : Int) (t c : Nat) (m : Int → TEntry → TEntry) : Con Tryz.prog 119 [.ref 0 t 8 0,.int .i64 k] (wood t 8 TEntry.encO TEntry.inn []) c fun r H' _ => r = .int .i64 (k + szL cEntry []) ∧ H' = wood t 8 TEntry.encO TEntry.inn (mks m cEntry k []) := by
  refine con_of c119 (by simp [F119]) ?_
  unfold F119
  simp
  refine loop_drop 0 (fun i e H c' => e 0 = .ref 0 t 8 0 ∧ e 1 = .int .i64 k ∧ e 5 = .int .i64 0 ∧ H = [⟨false,t,8,[]⟩]) ⟨rfl,rfl,rfl,rfl⟩ ?_
  intro i e H c hi ⟨e0,e1,e5,hH⟩ N hN
  subst hH
  simp [e0,e1,e5]
  exact fin_all ⟨by simp [szL],rfl⟩
theorem markEf_con : ∀ (n : Nat) {l : List TEntry},szL cEntry l ≤ n → ∀ {k : Int},0 ≤ k ∧ k + szL cEntry l ≤ 2199023255552 → ∀ t c,Con Tryz.prog 119 [.ref 0 t 8 l.length,.int .i64 k] (wood t 8 TEntry.encO TEntry.inn l) c fun r H' _ => r = .int .i64 (k + szL cEntry l) ∧ H' = wood t 8 TEntry.encO TEntry.inn (mks (mkEf n) cEntry k l)
  | 0,l,hz,k,hk,t,c => by
    have hl : l = [] := List.length_eq_zero_iff.1 (by have := szL_cEntry l; omega)
    subst hl
    exact mark_empty k t c _
  | n + 1,l,hz,k,hk,t,c => markEf_con1 (fun hz => markEf_con n hz) hz hk t c
def FU : Nat := 16777216
def mkEntry (k : Int) (x : TEntry) : TEntry := mkEf FU k x
theorem mkEntry_tags (k : Int) (x : TEntry) : tags (TEntry.inn (mkEntry k x)) = tags (TEntry.inn x) := mkEf_tags FU k x
theorem markEntry_con {s : SL TEntry} (hz : szL cEntry s.list ≤ 16777216) {k : Int} (hk : 0 ≤ k ∧ k ≤ 1099511627776) (c : Nat) :
    Con Tryz.prog 119 [s.ref 8,.int .i64 k] (s.wood 8 TEntry.encO TEntry.inn) c fun r H' _ => r = .int .i64 (k + szL cEntry s.list) ∧ H' = (s.marks mkEntry cEntry k).wood 8 TEntry.encO TEntry.inn :=
  markEf_conS (n := FU) (fun hz => markEf_con FU hz) hz ⟨hk.1,by omega⟩ c
theorem encS_flat : Flat encS := fun x a ha => by simp [encS] at ha; subst ha; exact ⟨rfl,free_str _⟩
def mkS (k : Int) (x : List UInt8) : List UInt8 := mtext k
def cS (x : List UInt8) : Nat := 1
theorem szL_cS (l : List (List UInt8)) : szL cS l = l.length := by
  show szL (fun _ => 1) l = _
  rw [szL_const]; omega
theorem markString_nil (k : Int) : Fnc Tryz.prog 72 [.nsl,.int .i64 k] (.int .i64 k) := by
  refine fn_of c72 (by simp [F72]) fun c => ?_
  unfold F72
  simp
  refine loop_drop 0 (fun i e H c' => e 0 = .nsl ∧ e 1 = .int .i64 k ∧ e 5 = .int .i64 0 ∧ H = []) ⟨rfl,rfl,rfl,rfl⟩ ?_
  intro i e H c hi ⟨e0,e1,e5,hH⟩ N hN
  subst hH
  simp [e0,e1,e5]
  exact fin_plain ⟨rfl,rfl⟩
theorem markString_con1 {l : List (List UInt8)} (hz : l.length ≤ 16777216) {k : Int} (hk : 0 ≤ k ∧ k ≤ 1099511627776) (t c : Nat) :
    Con Tryz.prog 72 [.ref 0 t 1 l.length,.int .i64 k] [⟨false,t,1,l.map encS⟩] c fun r H' _ => r = .int .i64 (k + szL cS l) ∧ H' = [⟨false,t,1,(mks mkS cS k l).map encS⟩] := by
  refine con_of c72 (by simp [F72]) ?_
  unfold F72
  simp
  refine loop_drop l.length (fun i e H c' => e 0 = .ref 0 t 1 l.length ∧ e 1 = .int .i64 (k + szL cS (l.take i)) ∧ e 5 = .int .i64 i ∧ H = [⟨false,t,1,(mixed mkS cS k l i).map encS⟩]) ⟨rfl,by simp [szL],rfl,by rw [mixed_zero]⟩ ?_
  intro i e H c hi ⟨e0,e1,e5,hH⟩ N hN
  subst hH
  have hs := mixed_set mkS cS k l (i := i)
  have hst := fun h : i < l.length => szL_step cS l h
  have hle : szL cS (l.take i) ≤ 16777216 := by rw [szL_cS,List.length_take]; omega
  generalize hjj : k + (szL cS (l.take i) : Int) = j at e1 hs
  simp [e0,e1,e5]
  refine ⟨fun h => ?_,fun h => ?_⟩
  · have hs := hs h
    have hst := hst h
    have w0 : IntKind.i64.wrap (j + 1) = j + 1 := wrap64 (by omega) (by omega)
    refine call_fn0 (mtext_fn (by omega)) .str fun _ _ => ?_
    simp [e0,e1,e5,h,mixed_len,w0,putA]
    refine ⟨_,mixed_get mkS cS k l h,?_⟩
    refine hN _ _ _ _ h (List.Sublist.refl _) ⟨by simp [upd,e0],?_,by simp [upd]; exact step64 (by unfold mx; omega) h,?_⟩
    · simp [upd,w0,hst,cS]; omega
    · rw [← hs,List.map_set]
      simp [mkS,encS]
  · have h1 : i = l.length := by omega
    subst h1
    refine fin_all ⟨?_,?_⟩
    · rw [← hjj]; simp
    · rw [mixed_all]
theorem markString_con {s : SL (List UInt8)} (hz : szL cS s.list ≤ 16777216) {k : Int} (hk : 0 ≤ k ∧ k ≤ 1099511627776) (c : Nat) :
    Con Tryz.prog 72 [s.ref 1,.int .i64 k] (s.wood 1 encS noInn) c fun r H' _ => r = .int .i64 (k + szL cS s.list) ∧ H' = (s.marks mkS cS k).wood 1 encS noInn := by
  cases s with
  | nil =>
    have := markString_nil k c
    simpa [SL.ref,SL.wood,SL.marks,szL] using this
  | mk t l =>
    have := markString_con1 (l := l) (by have := szL_cS l; simp at hz; omega) hk t c
    simpa [SL.ref,SL.wood,SL.marks,wood_flat] using this
theorem toStringSO {s : SL (List UInt8)} (h : szStringS s ≤ 1048576) (c : Nat) : Con Tryz.prog 102 [s.av 1 encS] [] c fun r O _ => ∃ b : SL (List UInt8),r = b.ref 1 ∧ O = b.wood 1 encS noInn ∧ b.list = s.list := by
  have h2 : s.list.length ≤ 1048576 := by unfold szStringS at h; omega
  exact toPO_fn (v := fun x => .str x) (z := .str []) (bytes := 16) c102 (fun _ _ => by simp) (by omega) (by omega) c
set_option maxRecDepth 100000
theorem call_mid2 {P : Program} {K : AV → List AObj → Nat → Prop} {f : Nat} {l l' : List AV} {a : AObj} {A A2 B C : List AObj} {c : Nat} {Q : AV → List AObj → Nat → Prop} (hf : Con P f l' B c Q) (hv : Views [] l l')
    (k : ∀ r B' c',c ≤ c' → Q r B' c' → tags B' = tags B ∧ Av [] r ∧ (∀ o,o ∈ B' → AvRows [] o) ∧ K r (a :: (A ++ (A2 ++ (B' ++ C)))) c') : CallW P f l (a :: (A ++ (A2 ++ (B ++ C)))) c K := by
  have e : ∀ X : List AObj,a :: (A ++ (A2 ++ (X ++ C))) = a :: ((A ++ A2) ++ (X ++ C)) := fun X => by simp
  rw [e]
  exact call_midr hf hv fun r B' c' hc hq => by rw [← e]; exact k r B' c' hc hq
theorem call_mid3 {P : Program} {K : AV → List AObj → Nat → Prop} {f : Nat} {l l' : List AV} {a : AObj} {A A2 A3 B C : List AObj} {c : Nat} {Q : AV → List AObj → Nat → Prop} (hf : Con P f l' B c Q) (hv : Views [] l l')
    (k : ∀ r B' c',c ≤ c' → Q r B' c' → tags B' = tags B ∧ Av [] r ∧ (∀ o,o ∈ B' → AvRows [] o) ∧ K r (a :: (A ++ (A2 ++ (A3 ++ (B' ++ C))))) c') : CallW P f l (a :: (A ++ (A2 ++ (A3 ++ (B ++ C))))) c K := by
  have e : ∀ X : List AObj,a :: (A ++ (A2 ++ (A3 ++ (X ++ C)))) = a :: ((A ++ (A2 ++ A3)) ++ (X ++ C)) := fun X => by simp
  rw [e]
  exact call_midr hf hv fun r B' c' hc hq => by rw [← e]; exact k r B' c' hc hq
theorem call_mid4 {P : Program} {K : AV → List AObj → Nat → Prop} {f : Nat} {l l' : List AV} {a : AObj} {A A2 A3 A4 B C : List AObj} {c : Nat} {Q : AV → List AObj → Nat → Prop} (hf : Con P f l' B c Q) (hv : Views [] l l')
    (k : ∀ r B' c',c ≤ c' → Q r B' c' → tags B' = tags B ∧ Av [] r ∧ (∀ o,o ∈ B' → AvRows [] o) ∧ K r (a :: (A ++ (A2 ++ (A3 ++ (A4 ++ (B' ++ C)))))) c') : CallW P f l (a :: (A ++ (A2 ++ (A3 ++ (A4 ++ (B ++ C)))))) c K := by
  have e : ∀ X : List AObj,a :: (A ++ (A2 ++ (A3 ++ (A4 ++ (X ++ C))))) = a :: ((A ++ (A2 ++ (A3 ++ A4))) ++ (X ++ C)) := fun X => by simp
  rw [e]
  exact call_midr hf hv fun r B' c' hc hq => by rw [← e]; exact k r B' c' hc hq
theorem TParam.flat : Flat TParam.enc := fun x a ha => by
  simp [TParam.enc] at ha
  rcases ha with rfl | rfl <;> exact ⟨rfl,fun T => by constructor⟩
theorem toParamSO {s : SL TParam} (h : szParamS s ≤ 1048576) (c : Nat) : Con Tryz.prog 101 [s.av 2 TParam.enc] [] c fun r H' _ => ∃ b : SL TParam,r = b.ref 2 ∧ H' = b.wood 2 TParam.enc noInn ∧ b.list.map TParam.con = s.list.map TParam.con := by
  unfold szParamS at h
  exact toSO_fn (g := 145) (z := [.str [],.bool false]) (bytes := 24) c101 rfl (fun _ => rfl) (fun _ => rfl) (fun x a ha => (TParam.flat x a ha).2) (fun x o ho => by cases ho) (by omega) (by omega)
    (fun x hx c => (TParam.to_fn (by have := szL_mem (sz := TParam.sz) hx; omega) c).mono fun r H' c' _ ⟨hH,⟨b,hr,hb⟩,_⟩ => ⟨b,hr,hH,hb⟩) c
def mkParam (k : Int) (x : TParam) : TParam := ⟨mtext k,decide ((k + 1).tmod 3 = 0)⟩
def cParam (x : TParam) : Nat := 2
theorem markParam_nil (k : Int) : Fnc Tryz.prog 71 [.nsl,.int .i64 k] (.int .i64 k) := by
  refine fn_of c71 (by simp [F71]) fun c => ?_
  unfold F71
  simp
  refine loop_drop 0 (fun i e H c' => e 0 = .nsl ∧ e 1 = .int .i64 k ∧ e 5 = .int .i64 0 ∧ H = []) ⟨rfl,rfl,rfl,rfl⟩ ?_
  intro i e H c hi ⟨e0,e1,e5,hH⟩ N hN
  subst hH
  simp [e0,e1,e5]
  exact fin_plain ⟨rfl,rfl⟩
theorem szL_cParam (l : List TParam) : l.length ≤ szL cParam l := by
  induction l with
  | nil => simp
  | cons x l ih => simp [szL,cParam] at ih ⊢; omega
theorem szL_eParam (l : List TParam) : szL cParam l = 2 * l.length := by
  show szL (fun _ => 2) l = _
  rw [szL_const]
theorem markParam_con1 {l : List TParam} (hz : szL cParam l ≤ 16777216) {k : Int} (hk : 0 ≤ k ∧ k ≤ 1099511627776) (t c : Nat) :
    Con Tryz.prog 71 [.ref 0 t 2 l.length,.int .i64 k] ([⟨false,t,2,l.map TParam.enc⟩]) c fun r H' _ => r = .int .i64 (k + szL cParam l) ∧ H' = [⟨false,t,2,(mks mkParam cParam k l).map TParam.enc⟩] := by
  have hln := szL_cParam l
  refine con_of c71 (by simp [F71]) ?_
  unfold F71
  simp
  refine loop_drop l.length (fun i e H c' => e 0 = .ref 0 t 2 l.length ∧ e 1 = .int .i64 (k + szL cParam (l.take i)) ∧ e 5 = .int .i64 i ∧ H = [⟨false,t,2,(mixed mkParam cParam k l i).map TParam.enc⟩]) ⟨rfl,by simp [szL],rfl,by rw [mixed_zero]⟩ ?_
  intro i e H c hi ⟨e0,e1,e5,hH⟩ N hN
  subst hH
  have hs := mixed_set mkParam cParam k l (i := i)
  have hst := fun h : i < l.length => szL_step cParam l h
  have hle := szL_le cParam l i
  have hle1 := szL_le cParam l (i + 1)
  generalize hjj : k + (szL cParam (l.take i) : Int) = j at e1 hs
  simp [e0,e1,e5]
  refine ⟨fun h => ?_,fun h => ?_⟩
  · have hs := hs h
    have hst := hst h
    have hg := mixed_get mkParam cParam k l h
    have hx := szL_mem (sz := cParam) (List.getElem_mem h)
    generalize l[i] = x at hs hst hg hx
    simp only [cParam] at hx hst
    have w0 : IntKind.i64.wrap (j + 1) = j + 1 := wrap64 (by omega) (by omega)
    have w1 : IntKind.i64.wrap (j + 1 + 1) = j + 1 + 1 := wrap64 (by omega) (by omega)
    refine call_fn0 (mtext_fn (by omega)) .str fun _ _ => ?_
    simp [e0,e1,e5,h]
    refine ⟨_,hg,?_⟩
    simp [e0,e1,e5,h,mixed_len,w0,w1,putA,TParam.enc]
    refine hN _ _ _ _ h (List.Sublist.refl _) ⟨by simp [upd,e0],?_,by simp [upd]; exact step64 (by unfold mx; omega) h,?_⟩
    · simp [upd,w0,w1,hst]; omega
    · rw [← hs,List.map_set]
      simp [mkParam,TParam.enc,w0,w1]
  · have h1 : i = l.length := by omega
    subst h1
    refine fin_all ⟨?_,?_⟩
    · rw [← hjj]; simp
    · rw [mixed_all]
theorem markParam_con {s : SL TParam} (hz : szL cParam s.list ≤ 16777216) {k : Int} (hk : 0 ≤ k ∧ k ≤ 1099511627776) (c : Nat) :
    Con Tryz.prog 71 [s.ref 2,.int .i64 k] (s.wood 2 TParam.enc noInn) c fun r H' _ => r = .int .i64 (k + szL cParam s.list) ∧ H' = (s.marks mkParam cParam k).wood 2 TParam.enc noInn := by
  cases s with
  | nil =>
    have := markParam_nil k c
    simpa [SL.ref,SL.wood,SL.marks,szL] using this
  | mk t l =>
    have := markParam_con1 (l := l) hz hk t c
    simpa [SL.ref,SL.wood,SL.marks,wood_flat] using this
theorem TIns.flat : Flat TIns.enc := fun x a ha => by
  simp [TIns.enc] at ha
  rcases ha with rfl | rfl | rfl | rfl | rfl <;> exact ⟨rfl,fun T => by constructor⟩
theorem toInsSO {s : SL TIns} (h : szInsS s ≤ 1048576) (c : Nat) : Con Tryz.prog 103 [s.av 5 TIns.enc] [] c fun r H' _ => ∃ b : SL TIns,r = b.ref 5 ∧ H' = b.wood 5 TIns.enc noInn ∧ b.list.map TIns.con = s.list.map TIns.con := by
  unfold szInsS at h
  exact toSO_fn (g := 146) (z := [.int .i64 0,.int .i64 0,.int .i64 0,.str [],.str []]) (bytes := 56) c103 rfl (fun _ => rfl) (fun _ => rfl) (fun x a ha => (TIns.flat x a ha).2) (fun x o ho => by cases ho) (by omega) (by omega)
    (fun x hx c => (TIns.to_fn (by have := szL_mem (sz := TIns.sz) hx; omega) c).mono fun r H' c' _ ⟨hH,⟨b,hr,hb⟩,_⟩ => ⟨b,hr,hH,hb⟩) c
def mkIns (k : Int) (x : TIns) : TIns := ⟨k,k + 1,k + 1 + 1,mtext (k + 1 + 1 + 1),mtext (k + 1 + 1 + 1 + 1)⟩
def cIns (x : TIns) : Nat := 5
theorem markIns_nil (k : Int) : Fnc Tryz.prog 73 [.nsl,.int .i64 k] (.int .i64 k) := by
  refine fn_of c73 (by simp [F73]) fun c => ?_
  unfold F73
  simp
  refine loop_drop 0 (fun i e H c' => e 0 = .nsl ∧ e 1 = .int .i64 k ∧ e 5 = .int .i64 0 ∧ H = []) ⟨rfl,rfl,rfl,rfl⟩ ?_
  intro i e H c hi ⟨e0,e1,e5,hH⟩ N hN
  subst hH
  simp [e0,e1,e5]
  exact fin_plain ⟨rfl,rfl⟩
theorem szL_cIns (l : List TIns) : l.length ≤ szL cIns l := by
  induction l with
  | nil => simp
  | cons x l ih => simp [szL,cIns] at ih ⊢; omega
theorem szL_eIns (l : List TIns) : szL cIns l = 5 * l.length := by
  show szL (fun _ => 5) l = _
  rw [szL_const]
theorem markIns_con1 {l : List TIns} (hz : szL cIns l ≤ 16777216) {k : Int} (hk : 0 ≤ k ∧ k ≤ 1099511627776) (t c : Nat) :
    Con Tryz.prog 73 [.ref 0 t 5 l.length,.int .i64 k] ([⟨false,t,5,l.map TIns.enc⟩]) c fun r H' _ => r = .int .i64 (k + szL cIns l) ∧ H' = [⟨false,t,5,(mks mkIns cIns k l).map TIns.enc⟩] := by
  have hln := szL_cIns l
  refine con_of c73 (by simp [F73]) ?_
  unfold F73
  simp
  refine loop_drop l.length (fun i e H c' => e 0 = .ref 0 t 5 l.length ∧ e 1 = .int .i64 (k + szL cIns (l.take i)) ∧ e 5 = .int .i64 i ∧ H = [⟨false,t,5,(mixed mkIns cIns k l i).map TIns.enc⟩]) ⟨rfl,by simp [szL],rfl,by rw [mixed_zero]⟩ ?_
  intro i e H c hi ⟨e0,e1,e5,hH⟩ N hN
  subst hH
  have hs := mixed_set mkIns cIns k l (i := i)
  have hst := fun h : i < l.length => szL_step cIns l h
  have hle := szL_le cIns l i
  have hle1 := szL_le cIns l (i + 1)
  generalize hjj : k + (szL cIns (l.take i) : Int) = j at e1 hs
  simp [e0,e1,e5]
  refine ⟨fun h => ?_,fun h => ?_⟩
  · have hs := hs h
    have hst := hst h
    have hg := mixed_get mkIns cIns k l h
    have hx := szL_mem (sz := cIns) (List.getElem_mem h)
    generalize l[i] = x at hs hst hg hx
    simp only [cIns] at hx hst
    have w0 : IntKind.i64.wrap (j + 1) = j + 1 := wrap64 (by omega) (by omega)
    have w1 : IntKind.i64.wrap (j + 1 + 1) = j + 1 + 1 := wrap64 (by omega) (by omega)
    have w2 : IntKind.i64.wrap (j + 1 + 1 + 1) = j + 1 + 1 + 1 := wrap64 (by omega) (by omega)
    have w3 : IntKind.i64.wrap (j + 1 + 1 + 1 + 1) = j + 1 + 1 + 1 + 1 := wrap64 (by omega) (by omega)
    have w4 : IntKind.i64.wrap (j + 1 + 1 + 1 + 1 + 1) = j + 1 + 1 + 1 + 1 + 1 := wrap64 (by omega) (by omega)
    refine ⟨h,x,hg,?_⟩
    simp [e0,e1,e5,h,mixed_len,w0,w1,w2,w3,w4,putA,TIns.enc]
    refine call_fn0 (mtext_fn (by omega)) .str fun _ _ => ?_
    simp [e0,e1,e5,h,mixed_len,w0,w1,w2,w3,w4,putA,TIns.enc]
    refine call_fn0 (mtext_fn (by omega)) .str fun _ _ => ?_
    simp [e0,e1,e5,h,mixed_len,w0,w1,w2,w3,w4,putA,TIns.enc]
    refine hN _ _ _ _ h (List.Sublist.refl _) ⟨by simp [upd,e0],?_,by simp [upd]; exact step64 (by unfold mx; omega) h,?_⟩
    · simp [upd,w0,w1,w2,w3,w4,hst]; omega
    · rw [← hs,List.map_set]
      simp [mkIns,TIns.enc,w0,w1,w2,w3,w4]
  · have h1 : i = l.length := by omega
    subst h1
    refine fin_all ⟨?_,?_⟩
    · rw [← hjj]; simp
    · rw [mixed_all]
theorem markIns_con {s : SL TIns} (hz : szL cIns s.list ≤ 16777216) {k : Int} (hk : 0 ≤ k ∧ k ≤ 1099511627776) (c : Nat) :
    Con Tryz.prog 73 [s.ref 5,.int .i64 k] (s.wood 5 TIns.enc noInn) c fun r H' _ => r = .int .i64 (k + szL cIns s.list) ∧ H' = (s.marks mkIns cIns k).wood 5 TIns.enc noInn := by
  cases s with
  | nil =>
    have := markIns_nil k c
    simpa [SL.ref,SL.wood,SL.marks,szL] using this
  | mk t l =>
    have := markIns_con1 (l := l) hz hk t c
    simpa [SL.ref,SL.wood,SL.marks,wood_flat] using this
theorem TMethod.flat : Flat TMethod.enc := fun x a ha => by
  simp [TMethod.enc] at ha
  rcases ha with rfl | rfl | rfl | rfl | rfl <;> exact ⟨rfl,fun T => by constructor⟩
theorem toMethodSO {s : SL TMethod} (h : szMethodS s ≤ 1048576) (c : Nat) : Con Tryz.prog 105 [s.av 5 TMethod.enc] [] c fun r H' _ => ∃ b : SL TMethod,r = b.ref 5 ∧ H' = b.wood 5 TMethod.enc noInn ∧ b.list.map TMethod.con = s.list.map TMethod.con := by
  unfold szMethodS at h
  exact toSO_fn (g := 148) (z := [.str [],.str [],.str [],.bool false,.bool false]) (bytes := 56) c105 rfl (fun _ => rfl) (fun _ => rfl) (fun x a ha => (TMethod.flat x a ha).2) (fun x o ho => by cases ho) (by omega) (by omega)
    (fun x hx c => (TMethod.to_fn (by have := szL_mem (sz := TMethod.sz) hx; omega) c).mono fun r H' c' _ ⟨hH,⟨b,hr,hb⟩,_⟩ => ⟨b,hr,hH,hb⟩) c
def mkMethod (k : Int) (x : TMethod) : TMethod := ⟨mtext k,mtext (k + 1),mtext (k + 1 + 1),decide ((k + 1 + 1 + 1).tmod 3 = 0),decide ((k + 1 + 1 + 1 + 1).tmod 3 = 0)⟩
def cMethod (x : TMethod) : Nat := 5
theorem markMethod_nil (k : Int) : Fnc Tryz.prog 75 [.nsl,.int .i64 k] (.int .i64 k) := by
  refine fn_of c75 (by simp [F75]) fun c => ?_
  unfold F75
  simp
  refine loop_drop 0 (fun i e H c' => e 0 = .nsl ∧ e 1 = .int .i64 k ∧ e 5 = .int .i64 0 ∧ H = []) ⟨rfl,rfl,rfl,rfl⟩ ?_
  intro i e H c hi ⟨e0,e1,e5,hH⟩ N hN
  subst hH
  simp [e0,e1,e5]
  exact fin_plain ⟨rfl,rfl⟩
theorem szL_cMethod (l : List TMethod) : l.length ≤ szL cMethod l := by
  induction l with
  | nil => simp
  | cons x l ih => simp [szL,cMethod] at ih ⊢; omega
theorem szL_eMethod (l : List TMethod) : szL cMethod l = 5 * l.length := by
  show szL (fun _ => 5) l = _
  rw [szL_const]
theorem markMethod_con1 {l : List TMethod} (hz : szL cMethod l ≤ 16777216) {k : Int} (hk : 0 ≤ k ∧ k ≤ 1099511627776) (t c : Nat) :
    Con Tryz.prog 75 [.ref 0 t 5 l.length,.int .i64 k] ([⟨false,t,5,l.map TMethod.enc⟩]) c fun r H' _ => r = .int .i64 (k + szL cMethod l) ∧ H' = [⟨false,t,5,(mks mkMethod cMethod k l).map TMethod.enc⟩] := by
  have hln := szL_cMethod l
  refine con_of c75 (by simp [F75]) ?_
  unfold F75
  simp
  refine loop_drop l.length (fun i e H c' => e 0 = .ref 0 t 5 l.length ∧ e 1 = .int .i64 (k + szL cMethod (l.take i)) ∧ e 5 = .int .i64 i ∧ H = [⟨false,t,5,(mixed mkMethod cMethod k l i).map TMethod.enc⟩]) ⟨rfl,by simp [szL],rfl,by rw [mixed_zero]⟩ ?_
  intro i e H c hi ⟨e0,e1,e5,hH⟩ N hN
  subst hH
  have hs := mixed_set mkMethod cMethod k l (i := i)
  have hst := fun h : i < l.length => szL_step cMethod l h
  have hle := szL_le cMethod l i
  have hle1 := szL_le cMethod l (i + 1)
  generalize hjj : k + (szL cMethod (l.take i) : Int) = j at e1 hs
  simp [e0,e1,e5]
  refine ⟨fun h => ?_,fun h => ?_⟩
  · have hs := hs h
    have hst := hst h
    have hg := mixed_get mkMethod cMethod k l h
    have hx := szL_mem (sz := cMethod) (List.getElem_mem h)
    generalize l[i] = x at hs hst hg hx
    simp only [cMethod] at hx hst
    have w0 : IntKind.i64.wrap (j + 1) = j + 1 := wrap64 (by omega) (by omega)
    have w1 : IntKind.i64.wrap (j + 1 + 1) = j + 1 + 1 := wrap64 (by omega) (by omega)
    have w2 : IntKind.i64.wrap (j + 1 + 1 + 1) = j + 1 + 1 + 1 := wrap64 (by omega) (by omega)
    have w3 : IntKind.i64.wrap (j + 1 + 1 + 1 + 1) = j + 1 + 1 + 1 + 1 := wrap64 (by omega) (by omega)
    have w4 : IntKind.i64.wrap (j + 1 + 1 + 1 + 1 + 1) = j + 1 + 1 + 1 + 1 + 1 := wrap64 (by omega) (by omega)
    refine call_fn0 (mtext_fn (by omega)) .str fun _ _ => ?_
    simp [e0,e1,e5,h]
    refine ⟨_,hg,?_⟩
    simp [e0,e1,e5,h,mixed_len,w0,w1,w2,w3,w4,putA,TMethod.enc]
    refine call_fn0 (mtext_fn (by omega)) .str fun _ _ => ?_
    simp [e0,e1,e5,h,mixed_len,w0,w1,w2,w3,w4,putA,TMethod.enc]
    refine call_fn0 (mtext_fn (by omega)) .str fun _ _ => ?_
    simp [e0,e1,e5,h,mixed_len,w0,w1,w2,w3,w4,putA,TMethod.enc]
    refine hN _ _ _ _ h (List.Sublist.refl _) ⟨by simp [upd,e0],?_,by simp [upd]; exact step64 (by unfold mx; omega) h,?_⟩
    · simp [upd,w0,w1,w2,w3,w4,hst]; omega
    · rw [← hs,List.map_set]
      simp [mkMethod,TMethod.enc,w0,w1,w2,w3,w4]
  · have h1 : i = l.length := by omega
    subst h1
    refine fin_all ⟨?_,?_⟩
    · rw [← hjj]; simp
    · rw [mixed_all]
theorem markMethod_con {s : SL TMethod} (hz : szL cMethod s.list ≤ 16777216) {k : Int} (hk : 0 ≤ k ∧ k ≤ 1099511627776) (c : Nat) :
    Con Tryz.prog 75 [s.ref 5,.int .i64 k] (s.wood 5 TMethod.enc noInn) c fun r H' _ => r = .int .i64 (k + szL cMethod s.list) ∧ H' = (s.marks mkMethod cMethod k).wood 5 TMethod.enc noInn := by
  cases s with
  | nil =>
    have := markMethod_nil k c
    simpa [SL.ref,SL.wood,SL.marks,szL] using this
  | mk t l =>
    have := markMethod_con1 (l := l) hz hk t c
    simpa [SL.ref,SL.wood,SL.marks,wood_flat] using this
def TFunc.encO (s : TFunc) : List AV := [.str s.Name,s.Params.ref 2,s.Uses.ref 2,s.Slots.ref 1,.bool s.Gen,s.Code.ref 5]
def TFunc.inn (s : TFunc) : List AObj := s.Params.wood 2 TParam.enc noInn ++ (s.Uses.wood 2 TParam.enc noInn ++ (s.Slots.wood 1 encS noInn ++ (s.Code.wood 5 TIns.enc noInn)))
@[simp] theorem TFunc.lenO (s : TFunc) : s.encO.length = 6 := (rfl)
@[simp] theorem TFunc.allO (s : TFunc) : s.encO.take 6 = s.encO := (rfl)
@[simp] theorem TFunc.o0 (s : TFunc) (K : AV → Prop) : getW s.encO 0 K = K (.str s.Name) := by simp [TFunc.encO]
@[simp] theorem TFunc.o1 (s : TFunc) (K : AV → Prop) : getW s.encO 1 K = K (s.Params.ref 2) := by simp [TFunc.encO]
@[simp] theorem TFunc.o2 (s : TFunc) (K : AV → Prop) : getW s.encO 2 K = K (s.Uses.ref 2) := by simp [TFunc.encO]
@[simp] theorem TFunc.o3 (s : TFunc) (K : AV → Prop) : getW s.encO 3 K = K (s.Slots.ref 1) := by simp [TFunc.encO]
@[simp] theorem TFunc.o4 (s : TFunc) (K : AV → Prop) : getW s.encO 4 K = K (.bool s.Gen) := by simp [TFunc.encO]
@[simp] theorem TFunc.o5 (s : TFunc) (K : AV → Prop) : getW s.encO 5 K = K (s.Code.ref 5) := by simp [TFunc.encO]
theorem TFunc.freeO : ∀ (x : TFunc) a,a ∈ x.encO → Free a := fun x a ha => by
  simp [TFunc.encO] at ha
  rcases ha with rfl | rfl | rfl | rfl | rfl | rfl
  · exact free_str _
  · exact free_ref _ _
  · exact free_ref _ _
  · exact free_ref _ _
  · exact free_bool _
  · exact free_ref _ _
theorem TFunc.freeI : ∀ (x : TFunc) o,o ∈ x.inn → ∀ T,AvRows T o := fun x o ho => by
  simp only [TFunc.inn,List.mem_append] at ho
  rcases ho with ho | ho | ho | ho
  · exact flat_free TParam.flat _ _ o ho
  · exact flat_free TParam.flat _ _ o ho
  · exact flat_free encS_flat _ _ o ho
  · exact flat_free TIns.flat _ _ o ho
theorem TFunc.viewO {S : List AObj} (x : TFunc) (h : ∀ o,o ∈ x.inn → o ∈ S) : ∀ (j : Nat) (a a' : AV),x.encO[j]? = some a → x.enc[j]? = some a' → View S a a' := fun j a a' h1 h2 => by
  match j,h1,h2 with
  | 0,h1,h2 => simp [TFunc.encO] at h1; simp [TFunc.enc] at h2; subst h1; subst h2; exact .refl _
  | 1,h1,h2 => simp [TFunc.encO] at h1; simp [TFunc.enc] at h2; subst h1; subst h2; exact view_flat (fun o ho => h o (by simp [TFunc.inn,ho])) TParam.flat.cells
  | 2,h1,h2 => simp [TFunc.encO] at h1; simp [TFunc.enc] at h2; subst h1; subst h2; exact view_flat (fun o ho => h o (by simp [TFunc.inn,ho])) TParam.flat.cells
  | 3,h1,h2 => simp [TFunc.encO] at h1; simp [TFunc.enc] at h2; subst h1; subst h2; exact view_flat (fun o ho => h o (by simp [TFunc.inn,ho])) encS_flat.cells
  | 4,h1,h2 => simp [TFunc.encO] at h1; simp [TFunc.enc] at h2; subst h1; subst h2; exact .refl _
  | 5,h1,h2 => simp [TFunc.encO] at h1; simp [TFunc.enc] at h2; subst h1; subst h2; exact view_flat (fun o ho => h o (by simp [TFunc.inn,ho])) TIns.flat.cells
  | j + 6,h1,h2 => simp [TFunc.encO] at h1
theorem view_OFunc {S : List AObj} {s : SL TFunc} (hs : ∀ o,o ∈ s.wood 6 TFunc.encO TFunc.inn → o ∈ S) : View S (s.ref 6) (s.av 6 TFunc.enc) :=
  view_wood hs (fun x => TFunc.cells x) (fun _ => rfl) fun x h => TFunc.viewO x h
theorem toFuncO {x : TFunc} (h : x.sz ≤ 1048576) (c : Nat) : Con Tryz.prog 56 [.agg x.enc] [] c fun r O _ => ∃ b : TFunc,r = .agg b.encO ∧ O = b.inn ∧ b.con = x.con := by
  simp only [TFunc.sz] at h
  refine con_of c56 (by simp [F56]) ?_
  unfold F56
  simp [putA]
  refine call_new (toParamSO (by omega) _) (Views.refl _ _) fun r1 O1 c1 hc1 ⟨b1,hr,hO,q1⟩ _ _ => ?_
  subst hr; subst hO
  refine ⟨_,.refl _,free_ref _ _ _,fun o ho => flat_free TParam.flat _ _ o ho _,?_⟩
  simp [putA]
  refine call_new (toParamSO (by omega) _) (Views.refl _ _) fun r2 O2 c2 hc2 ⟨b2,hr,hO,q2⟩ _ _ => ?_
  subst hr; subst hO
  refine ⟨_,.refl _,free_ref _ _ _,fun o ho => flat_free TParam.flat _ _ o ho _,?_⟩
  simp [putA]
  refine call_new (toStringSO (by omega) _) (Views.refl _ _) fun r3 O3 c3 hc3 ⟨b3,hr,hO,q3⟩ _ _ => ?_
  subst hr; subst hO
  refine ⟨_,.refl _,free_ref _ _ _,fun o ho => flat_free encS_flat _ _ o ho _,?_⟩
  simp [putA]
  refine call_new (toInsSO (by omega) _) (Views.refl _ _) fun r4 O4 c4 hc4 ⟨b4,hr,hO,q4⟩ _ _ => ?_
  subst hr; subst hO
  refine ⟨_,.refl _,free_ref _ _ _,fun o ho => flat_free TIns.flat _ _ o ho _,?_⟩
  simp [putA]
  refine fin_sub (Hk := b1.wood 2 TParam.enc noInn ++ (b2.wood 2 TParam.enc noInn ++ (b3.wood 1 encS noInn ++ (b4.wood 5 TIns.enc noInn)))) ?_ (.refl _) ⟨⟨x.Name,b1,b2,b3,x.Gen,b4⟩,rfl,by simp [TFunc.inn],by simp [TFunc.con,SL.con,SL.pcon,q1,q2,q3,q4]⟩
  exact ((List.Sublist.refl _).cons _).cons _ |>.cons _
theorem toFuncSO {s : SL TFunc} (h : szFuncS s ≤ 1048576) (c : Nat) : Con Tryz.prog 27 [s.av 6 TFunc.enc] [] c fun r H' _ => ∃ b : SL TFunc,r = b.ref 6 ∧ H' = b.wood 6 TFunc.encO TFunc.inn ∧ b.list.map TFunc.con = s.list.map TFunc.con := by
  unfold szFuncS at h
  exact toSO_fn (g := 56) (z := [.str [],.nsl,.nsl,.nsl,.bool false,.nsl]) (bytes := 120) c27 rfl (fun _ => rfl) (fun _ => rfl) TFunc.freeO TFunc.freeI (by omega) (by omega)
    (fun x hx c => toFuncO (by have := szL_mem (sz := TFunc.sz) hx; omega) c) c
def mkFunc (k : Int) (x : TFunc) : TFunc := ⟨mtext k,x.Params.marks mkParam cParam (k + 1),x.Uses.marks mkParam cParam (k + 1 + szL cParam x.Params.list),x.Slots.marks mkS cS (k + 1 + szL cParam x.Params.list + szL cParam x.Uses.list),decide ((k + 1 + szL cParam x.Params.list + szL cParam x.Uses.list + szL cS x.Slots.list).tmod 3 = 0),x.Code.marks mkIns cIns (k + 1 + szL cParam x.Params.list + szL cParam x.Uses.list + szL cS x.Slots.list + 1)⟩
def cFunc (x : TFunc) : Nat := 2 + szL cParam x.Params.list + szL cParam x.Uses.list + szL cS x.Slots.list + szL cIns x.Code.list
theorem markFunc_nil (k : Int) : Fnc Tryz.prog 37 [.nsl,.int .i64 k] (.int .i64 k) := by
  refine fn_of c37 (by simp [F37]) fun c => ?_
  unfold F37
  simp
  refine loop_drop 0 (fun i e H c' => e 0 = .nsl ∧ e 1 = .int .i64 k ∧ e 5 = .int .i64 0 ∧ H = []) ⟨rfl,rfl,rfl,rfl⟩ ?_
  intro i e H c hi ⟨e0,e1,e5,hH⟩ N hN
  subst hH
  simp [e0,e1,e5]
  exact fin_plain ⟨rfl,rfl⟩
theorem szL_cFunc (l : List TFunc) : l.length ≤ szL cFunc l := by
  induction l with
  | nil => simp
  | cons x l ih => simp [szL,cFunc] at ih ⊢; omega
theorem mkFunc_encO (k : Int) (x : TFunc) : (mkFunc k x).encO = [.str (mtext (k)),x.Params.ref 2,x.Uses.ref 2,x.Slots.ref 1,.bool (decide ((k + 1 + szL cParam x.Params.list + szL cParam x.Uses.list + szL cS x.Slots.list).tmod 3 = 0)),x.Code.ref 5] := by
  simp [mkFunc,TFunc.encO,SL.marks_ref]
theorem mkFunc_tags (k : Int) (x : TFunc) : tags (mkFunc k x).inn = tags x.inn := by
  have eT : ∀ X Y : List AObj,tags (X ++ Y) = tags X ++ tags Y := fun X Y => by simp [tags]
  simp only [TFunc.inn,mkFunc,vItems,eT,flat_marks (enc := TParam.enc) (w := 2) mkParam cParam,flat_marks (enc := encS) (w := 1) mkS cS,flat_marks (enc := TIns.enc) (w := 5) mkIns cIns]
theorem markFunc_con1 {l : List TFunc} (hz : szL cFunc l ≤ 16777216) {k : Int} (hk : 0 ≤ k ∧ k ≤ 549755813888) (t c : Nat) :
    Con Tryz.prog 37 [.ref 0 t 6 l.length,.int .i64 k] (wood t 6 TFunc.encO TFunc.inn l) c fun r H' _ => r = .int .i64 (k + szL cFunc l) ∧ H' = wood t 6 TFunc.encO TFunc.inn (mks mkFunc cFunc k l) := by
  have hln := szL_cFunc l
  refine con_of c37 (by simp [F37]) ?_
  unfold F37
  simp
  refine loop_drop l.length (fun i e H c' => e 0 = .ref 0 t 6 l.length ∧ e 1 = .int .i64 (k + szL cFunc (l.take i)) ∧ e 5 = .int .i64 i ∧ H = ⟨false,t,6,(mixed mkFunc cFunc k l i).map TFunc.encO⟩ :: (mixed mkFunc cFunc k l i).flatMap TFunc.inn) ⟨rfl,by simp [szL],rfl,by rw [mixed_zero]; rfl⟩ ?_
  intro i e H c hi ⟨e0,e1,e5,hH⟩ N hN
  subst hH
  have hs := mixed_set mkFunc cFunc k l (i := i)
  have hst := fun h : i < l.length => szL_step cFunc l h
  have hle := szL_le cFunc l i
  have hle1 := szL_le cFunc l (i + 1)
  have hfl := fun h : i < l.length => mixed_flat (mk := mkFunc) (cnt := cFunc) (k := k) (inn := TFunc.inn) h
  have hfl' := fun h : i < l.length => mixed_flat' (mk := mkFunc) (cnt := cFunc) (k := k) (inn := TFunc.inn) h
  generalize hjj : k + (szL cFunc (l.take i) : Int) = j at e1 hs hfl'
  simp [e0,e1,e5]
  refine ⟨fun h => ?_,fun h => ?_⟩
  · have hs := hs h
    have hst := hst h
    have hg := mixed_get mkFunc cFunc k l h
    have hx := szL_mem (sz := cFunc) (List.getElem_mem h)
    rw [hfl h]
    have hfl' := hfl' h
    generalize l[i] = x at hs hst hg hx hfl'
    generalize (mks mkFunc cFunc k (l.take i)).flatMap TFunc.inn = PRE at hfl' ⊢
    generalize (l.drop (i + 1)).flatMap TFunc.inn = POST at hfl' ⊢
    simp only [cFunc] at hx hst
    have w0 : IntKind.i64.wrap (j + 1) = j + 1 := wrap64 (by omega) (by omega)
    have w4 : IntKind.i64.wrap (j + 1 + szL cParam x.Params.list + szL cParam x.Uses.list + szL cS x.Slots.list + 1) = j + 1 + szL cParam x.Params.list + szL cParam x.Uses.list + szL cS x.Slots.list + 1 := wrap64 (by omega) (by omega)
    refine call_fn0 (mtext_fn (by omega)) .str fun _ _ => ?_
    simp [e0,e1,e5,h]
    refine ⟨_,hg,?_⟩
    simp [e0,e1,e5,h,mixed_len,w0,w4,putA,TFunc.encO,TFunc.inn]
    refine call_midr (f := 71) (B := x.Params.wood 2 TParam.enc noInn) (markParam_con (s := x.Params) (by omega) (k := j + 1) ⟨by omega,by omega⟩ _) (Views.refl _ _) fun r B' c' hc ⟨q1,q2⟩ => ?_
    subst q1; subst q2
    refine ⟨flat_marks (enc := TParam.enc) (w := 2) mkParam cParam _ x.Params,.int,fun o ho => flat_free TParam.flat _ _ o ho _,?_⟩
    simp [e0,e1,e5,h,mixed_len,w0,w4,putA,TFunc.encO,TFunc.inn]
    refine call_mid2 (f := 71) (B := x.Uses.wood 2 TParam.enc noInn) (markParam_con (s := x.Uses) (by omega) (k := j + 1 + szL cParam x.Params.list) ⟨by omega,by omega⟩ _) (Views.refl _ _) fun r B' c' hc ⟨q1,q2⟩ => ?_
    subst q1; subst q2
    refine ⟨flat_marks (enc := TParam.enc) (w := 2) mkParam cParam _ x.Uses,.int,fun o ho => flat_free TParam.flat _ _ o ho _,?_⟩
    simp [e0,e1,e5,h,mixed_len,w0,w4,putA,TFunc.encO,TFunc.inn]
    refine call_mid3 (f := 72) (B := x.Slots.wood 1 encS noInn) (markString_con (s := x.Slots) (by omega) (k := j + 1 + szL cParam x.Params.list + szL cParam x.Uses.list) ⟨by omega,by omega⟩ _) (Views.refl _ _) fun r B' c' hc ⟨q1,q2⟩ => ?_
    subst q1; subst q2
    refine ⟨flat_marks (enc := encS) (w := 1) mkS cS _ x.Slots,.int,fun o ho => flat_free encS_flat _ _ o ho _,?_⟩
    simp [e0,e1,e5,h,mixed_len,w0,w4,putA,TFunc.encO,TFunc.inn]
    refine call_mid4 (f := 73) (B := x.Code.wood 5 TIns.enc noInn) (markIns_con (s := x.Code) (by omega) (k := j + 1 + szL cParam x.Params.list + szL cParam x.Uses.list + szL cS x.Slots.list + 1) ⟨by omega,by omega⟩ _) (Views.refl _ _) fun r B' c' hc ⟨q1,q2⟩ => ?_
    subst q1; subst q2
    refine ⟨flat_marks (enc := TIns.enc) (w := 5) mkIns cIns _ x.Code,.int,fun o ho => flat_free TIns.flat _ _ o ho _,?_⟩
    simp [e0,e1,e5,h,mixed_len,w0,w4,putA,TFunc.encO,TFunc.inn]
    refine hN _ _ _ _ h (List.Sublist.refl _) ⟨by simp [upd,e0],?_,by simp [upd]; exact step64 (by unfold mx; omega) h,?_⟩
    · simp [upd,w0,w4,hst]; omega
    · rw [hfl',← hs,List.map_set,mkFunc_encO]
      simp [mkFunc,TFunc.inn]
  · have h1 : i = l.length := by omega
    subst h1
    refine fin_all ⟨?_,?_⟩
    · rw [← hjj]; simp
    · rw [mixed_all]; rfl
theorem markFunc_con {s : SL TFunc} (hz : szL cFunc s.list ≤ 16777216) {k : Int} (hk : 0 ≤ k ∧ k ≤ 549755813888) (c : Nat) :
    Con Tryz.prog 37 [s.ref 6,.int .i64 k] (s.wood 6 TFunc.encO TFunc.inn) c fun r H' _ => r = .int .i64 (k + szL cFunc s.list) ∧ H' = (s.marks mkFunc cFunc k).wood 6 TFunc.encO TFunc.inn := by
  cases s with
  | nil =>
    have := markFunc_nil k c
    simpa [SL.ref,SL.wood,SL.marks,szL] using this
  | mk t l =>
    have := markFunc_con1 (l := l) hz hk t c
    exact this
def TField.encO (s : TField) : List AV := [.str s.Name,.str s.Owner,.bool s.Private,.int .i64 s.Init.Kind,.int .i64 s.Init.Num,.str s.Init.Str,.int .i64 s.Init.Next,s.Init.Items.ref 8]
def TField.inn (s : TField) : List AObj := s.Init.Items.wood 8 TEntry.encO TEntry.inn
@[simp] theorem TField.lenO (s : TField) : s.encO.length = 8 := (rfl)
@[simp] theorem TField.allO (s : TField) : s.encO.take 8 = s.encO := (rfl)
@[simp] theorem TField.o0 (s : TField) (K : AV → Prop) : getW s.encO 0 K = K (.str s.Name) := by simp [TField.encO]
@[simp] theorem TField.o1 (s : TField) (K : AV → Prop) : getW s.encO 1 K = K (.str s.Owner) := by simp [TField.encO]
@[simp] theorem TField.o2 (s : TField) (K : AV → Prop) : getW s.encO 2 K = K (.bool s.Private) := by simp [TField.encO]
@[simp] theorem TField.o3 (s : TField) (K : AV → Prop) : getW s.encO 3 K = K (.int .i64 s.Init.Kind) := by simp [TField.encO]
@[simp] theorem TField.o4 (s : TField) (K : AV → Prop) : getW s.encO 4 K = K (.int .i64 s.Init.Num) := by simp [TField.encO]
@[simp] theorem TField.o5 (s : TField) (K : AV → Prop) : getW s.encO 5 K = K (.str s.Init.Str) := by simp [TField.encO]
@[simp] theorem TField.o6 (s : TField) (K : AV → Prop) : getW s.encO 6 K = K (.int .i64 s.Init.Next) := by simp [TField.encO]
@[simp] theorem TField.o7 (s : TField) (K : AV → Prop) : getW s.encO 7 K = K (s.Init.Items.ref 8) := by simp [TField.encO]
theorem TField.freeO : ∀ (x : TField) a,a ∈ x.encO → Free a := fun x a ha => by
  simp [TField.encO] at ha
  rcases ha with rfl | rfl | rfl | rfl | rfl | rfl | rfl | rfl
  · exact free_str _
  · exact free_str _
  · exact free_bool _
  · exact free_int _ _
  · exact free_int _ _
  · exact free_str _
  · exact free_int _ _
  · exact free_ref _ _
theorem TField.freeI : ∀ (x : TField) o,o ∈ x.inn → ∀ T,AvRows T o := fun x o ho => by
  exact free_wood TEntry.freeO TEntry.freeI _ o ho
theorem TField.viewO {S : List AObj} (x : TField) (h : ∀ o,o ∈ x.inn → o ∈ S) : ∀ (j : Nat) (a a' : AV),x.encO[j]? = some a → x.enc[j]? = some a' → View S a a' := fun j a a' h1 h2 => by
  match j,h1,h2 with
  | 0,h1,h2 => simp [TField.encO] at h1; simp [TField.enc] at h2; subst h1; subst h2; exact .refl _
  | 1,h1,h2 => simp [TField.encO] at h1; simp [TField.enc] at h2; subst h1; subst h2; exact .refl _
  | 2,h1,h2 => simp [TField.encO] at h1; simp [TField.enc] at h2; subst h1; subst h2; exact .refl _
  | 3,h1,h2 => simp [TField.encO] at h1; simp [TField.enc] at h2; subst h1; subst h2; exact .refl _
  | 4,h1,h2 => simp [TField.encO] at h1; simp [TField.enc] at h2; subst h1; subst h2; exact .refl _
  | 5,h1,h2 => simp [TField.encO] at h1; simp [TField.enc] at h2; subst h1; subst h2; exact .refl _
  | 6,h1,h2 => simp [TField.encO] at h1; simp [TField.enc] at h2; subst h1; subst h2; exact .refl _
  | 7,h1,h2 => simp [TField.encO] at h1; simp [TField.enc] at h2; subst h1; subst h2; exact view_OEntry (fun o ho => h o (by simp [TField.inn,ho]))
  | j + 8,h1,h2 => simp [TField.encO] at h1
theorem view_OField {S : List AObj} {s : SL TField} (hs : ∀ o,o ∈ s.wood 8 TField.encO TField.inn → o ∈ S) : View S (s.ref 8) (s.av 8 TField.enc) :=
  view_wood hs (fun x => TField.cells x) (fun _ => rfl) fun x h => TField.viewO x h
theorem toFieldO {x : TField} (h : x.sz ≤ 1048576) (c : Nat) : Con Tryz.prog 147 [.agg x.enc] [] c fun r O _ => ∃ b : TField,r = .agg b.encO ∧ O = b.inn ∧ b.con = x.con := by
  simp only [TField.sz] at h
  refine con_of c147 (by simp [F147]) ?_
  unfold F147
  simp [putA]
  refine call_new (toValueO (by omega) _) (Views.refl _ _) fun r1 O1 c1 hc1 ⟨b1,hr,hO,q1⟩ _ _ => ?_
  subst hr; subst hO
  refine ⟨_,.refl _,free_agg (TValue.freeO b1) _,fun o ho => TValue.freeI b1 o ho _,?_⟩
  simp [putA,TValue.encO]
  refine fin_sub (Hk := b1.inn) ?_ (.refl _) ⟨⟨x.Name,x.Owner,x.Private,b1⟩,rfl,by simp [TField.inn,TValue.inn],by simp [TField.con,SL.con,SL.pcon,q1]⟩
  exact ((List.Sublist.refl _).cons _).cons _ |>.cons _
theorem toFieldSO {s : SL TField} (h : szFieldS s ≤ 1048576) (c : Nat) : Con Tryz.prog 104 [s.av 8 TField.enc] [] c fun r H' _ => ∃ b : SL TField,r = b.ref 8 ∧ H' = b.wood 8 TField.encO TField.inn ∧ b.list.map TField.con = s.list.map TField.con := by
  unfold szFieldS at h
  exact toSO_fn (g := 147) (z := [.str [],.str [],.bool false,.int .i64 0,.int .i64 0,.str [],.int .i64 0,.nsl]) (bytes := 104) c104 rfl (fun _ => rfl) (fun _ => rfl) TField.freeO TField.freeI (by omega) (by omega)
    (fun x hx c => toFieldO (by have := szL_mem (sz := TField.sz) hx; omega) c) c
def mkField (k : Int) (x : TField) : TField := ⟨mtext k,mtext (k + 1),decide ((k + 1 + 1).tmod 3 = 0),⟨k + 1 + 1 + 1,k + 1 + 1 + 1 + 1,mtext (k + 1 + 1 + 1 + 1 + 1),k + 1 + 1 + 1 + 1 + 1 + 1,x.Init.Items.marks mkEntry cEntry (k + 1 + 1 + 1 + 1 + 1 + 1 + 1)⟩⟩
def cField (x : TField) : Nat := 7 + szL cEntry x.Init.Items.list
theorem markField_nil (k : Int) : Fnc Tryz.prog 74 [.nsl,.int .i64 k] (.int .i64 k) := by
  refine fn_of c74 (by simp [F74]) fun c => ?_
  unfold F74
  simp
  refine loop_drop 0 (fun i e H c' => e 0 = .nsl ∧ e 1 = .int .i64 k ∧ e 5 = .int .i64 0 ∧ H = []) ⟨rfl,rfl,rfl,rfl⟩ ?_
  intro i e H c hi ⟨e0,e1,e5,hH⟩ N hN
  subst hH
  simp [e0,e1,e5]
  exact fin_plain ⟨rfl,rfl⟩
theorem szL_cField (l : List TField) : l.length ≤ szL cField l := by
  induction l with
  | nil => simp
  | cons x l ih => simp [szL,cField] at ih ⊢; omega
theorem mkField_encO (k : Int) (x : TField) : (mkField k x).encO = [.str (mtext (k)),.str (mtext (k + 1)),.bool (decide ((k + 1 + 1).tmod 3 = 0)),.int .i64 (k + 1 + 1 + 1),.int .i64 (k + 1 + 1 + 1 + 1),.str (mtext (k + 1 + 1 + 1 + 1 + 1)),.int .i64 (k + 1 + 1 + 1 + 1 + 1 + 1),x.Init.Items.ref 8] := by
  simp [mkField,TField.encO,SL.marks_ref]
theorem mkField_tags (k : Int) (x : TField) : tags (mkField k x).inn = tags x.inn := by
  have eT : ∀ X Y : List AObj,tags (X ++ Y) = tags X ++ tags Y := fun X Y => by simp [tags]
  simp only [TField.inn,mkField,vItems,eT,tags_wood (w := 8) (encO := TEntry.encO) (inn := TEntry.inn) (mk := mkEntry) (cnt := cEntry) mkEntry_tags]
theorem markField_con1 {l : List TField} (hz : szL cField l ≤ 16777216) {k : Int} (hk : 0 ≤ k ∧ k ≤ 549755813888) (t c : Nat) :
    Con Tryz.prog 74 [.ref 0 t 8 l.length,.int .i64 k] (wood t 8 TField.encO TField.inn l) c fun r H' _ => r = .int .i64 (k + szL cField l) ∧ H' = wood t 8 TField.encO TField.inn (mks mkField cField k l) := by
  have hln := szL_cField l
  refine con_of c74 (by simp [F74]) ?_
  unfold F74
  simp
  refine loop_drop l.length (fun i e H c' => e 0 = .ref 0 t 8 l.length ∧ e 1 = .int .i64 (k + szL cField (l.take i)) ∧ e 5 = .int .i64 i ∧ H = ⟨false,t,8,(mixed mkField cField k l i).map TField.encO⟩ :: (mixed mkField cField k l i).flatMap TField.inn) ⟨rfl,by simp [szL],rfl,by rw [mixed_zero]; rfl⟩ ?_
  intro i e H c hi ⟨e0,e1,e5,hH⟩ N hN
  subst hH
  have hs := mixed_set mkField cField k l (i := i)
  have hst := fun h : i < l.length => szL_step cField l h
  have hle := szL_le cField l i
  have hle1 := szL_le cField l (i + 1)
  have hfl := fun h : i < l.length => mixed_flat (mk := mkField) (cnt := cField) (k := k) (inn := TField.inn) h
  have hfl' := fun h : i < l.length => mixed_flat' (mk := mkField) (cnt := cField) (k := k) (inn := TField.inn) h
  generalize hjj : k + (szL cField (l.take i) : Int) = j at e1 hs hfl'
  simp [e0,e1,e5]
  refine ⟨fun h => ?_,fun h => ?_⟩
  · have hs := hs h
    have hst := hst h
    have hg := mixed_get mkField cField k l h
    have hx := szL_mem (sz := cField) (List.getElem_mem h)
    rw [hfl h]
    have hfl' := hfl' h
    generalize l[i] = x at hs hst hg hx hfl'
    generalize (mks mkField cField k (l.take i)).flatMap TField.inn = PRE at hfl' ⊢
    generalize (l.drop (i + 1)).flatMap TField.inn = POST at hfl' ⊢
    simp only [cField] at hx hst
    have w0 : IntKind.i64.wrap (j + 1) = j + 1 := wrap64 (by omega) (by omega)
    have w1 : IntKind.i64.wrap (j + 1 + 1) = j + 1 + 1 := wrap64 (by omega) (by omega)
    have w2 : IntKind.i64.wrap (j + 1 + 1 + 1) = j + 1 + 1 + 1 := wrap64 (by omega) (by omega)
    have w3 : IntKind.i64.wrap (j + 1 + 1 + 1 + 1) = j + 1 + 1 + 1 + 1 := wrap64 (by omega) (by omega)
    have w4 : IntKind.i64.wrap (j + 1 + 1 + 1 + 1 + 1) = j + 1 + 1 + 1 + 1 + 1 := wrap64 (by omega) (by omega)
    have w5 : IntKind.i64.wrap (j + 1 + 1 + 1 + 1 + 1 + 1) = j + 1 + 1 + 1 + 1 + 1 + 1 := wrap64 (by omega) (by omega)
    have w6 : IntKind.i64.wrap (j + 1 + 1 + 1 + 1 + 1 + 1 + 1) = j + 1 + 1 + 1 + 1 + 1 + 1 + 1 := wrap64 (by omega) (by omega)
    refine call_fn0 (mtext_fn (by omega)) .str fun _ _ => ?_
    simp [e0,e1,e5,h]
    refine ⟨_,hg,?_⟩
    simp [e0,e1,e5,h,mixed_len,w0,w1,w2,w3,w4,w5,w6,putA,TField.encO,TField.inn]
    refine call_fn0 (mtext_fn (by omega)) .str fun _ _ => ?_
    simp [e0,e1,e5,h,mixed_len,w0,w1,w2,w3,w4,w5,w6,putA,TField.encO,TField.inn]
    refine call_fn0 (mtext_fn (by omega)) .str fun _ _ => ?_
    simp [e0,e1,e5,h,mixed_len,w0,w1,w2,w3,w4,w5,w6,putA,TField.encO,TField.inn]
    refine call_midr (f := 119) (B := x.Init.Items.wood 8 TEntry.encO TEntry.inn) (markEntry_con (s := x.Init.Items) (by omega) (k := j + 1 + 1 + 1 + 1 + 1 + 1 + 1) ⟨by omega,by omega⟩ _) (Views.refl _ _) fun r B' c' hc ⟨q1,q2⟩ => ?_
    subst q1; subst q2
    refine ⟨tags_wood (w := 8) (encO := TEntry.encO) (inn := TEntry.inn) (mk := mkEntry) (cnt := cEntry) mkEntry_tags _ x.Init.Items,.int,fun o ho => free_wood TEntry.freeO TEntry.freeI _ o ho _,?_⟩
    simp [e0,e1,e5,h,mixed_len,w0,w1,w2,w3,w4,w5,w6,putA,TField.encO,TField.inn]
    refine hN _ _ _ _ h (List.Sublist.refl _) ⟨by simp [upd,e0],?_,by simp [upd]; exact step64 (by unfold mx; omega) h,?_⟩
    · simp [upd,w0,w1,w2,w3,w4,w5,w6,hst]; omega
    · rw [hfl',← hs,List.map_set,mkField_encO]
      simp [mkField,TField.inn]
  · have h1 : i = l.length := by omega
    subst h1
    refine fin_all ⟨?_,?_⟩
    · rw [← hjj]; simp
    · rw [mixed_all]; rfl
theorem markField_con {s : SL TField} (hz : szL cField s.list ≤ 16777216) {k : Int} (hk : 0 ≤ k ∧ k ≤ 549755813888) (c : Nat) :
    Con Tryz.prog 74 [s.ref 8,.int .i64 k] (s.wood 8 TField.encO TField.inn) c fun r H' _ => r = .int .i64 (k + szL cField s.list) ∧ H' = (s.marks mkField cField k).wood 8 TField.encO TField.inn := by
  cases s with
  | nil =>
    have := markField_nil k c
    simpa [SL.ref,SL.wood,SL.marks,szL] using this
  | mk t l =>
    have := markField_con1 (l := l) hz hk t c
    exact this
def TClass.encO (s : TClass) : List AV := [.str s.Name,.str s.Parent,s.Fields.ref 8,s.Methods.ref 5]
def TClass.inn (s : TClass) : List AObj := s.Fields.wood 8 TField.encO TField.inn ++ (s.Methods.wood 5 TMethod.enc noInn)
@[simp] theorem TClass.lenO (s : TClass) : s.encO.length = 4 := (rfl)
@[simp] theorem TClass.allO (s : TClass) : s.encO.take 4 = s.encO := (rfl)
@[simp] theorem TClass.o0 (s : TClass) (K : AV → Prop) : getW s.encO 0 K = K (.str s.Name) := by simp [TClass.encO]
@[simp] theorem TClass.o1 (s : TClass) (K : AV → Prop) : getW s.encO 1 K = K (.str s.Parent) := by simp [TClass.encO]
@[simp] theorem TClass.o2 (s : TClass) (K : AV → Prop) : getW s.encO 2 K = K (s.Fields.ref 8) := by simp [TClass.encO]
@[simp] theorem TClass.o3 (s : TClass) (K : AV → Prop) : getW s.encO 3 K = K (s.Methods.ref 5) := by simp [TClass.encO]
theorem TClass.freeO : ∀ (x : TClass) a,a ∈ x.encO → Free a := fun x a ha => by
  simp [TClass.encO] at ha
  rcases ha with rfl | rfl | rfl | rfl
  · exact free_str _
  · exact free_str _
  · exact free_ref _ _
  · exact free_ref _ _
theorem TClass.freeI : ∀ (x : TClass) o,o ∈ x.inn → ∀ T,AvRows T o := fun x o ho => by
  simp only [TClass.inn,List.mem_append] at ho
  rcases ho with ho | ho
  · exact free_wood TField.freeO TField.freeI _ o ho
  · exact flat_free TMethod.flat _ _ o ho
theorem TClass.viewO {S : List AObj} (x : TClass) (h : ∀ o,o ∈ x.inn → o ∈ S) : ∀ (j : Nat) (a a' : AV),x.encO[j]? = some a → x.enc[j]? = some a' → View S a a' := fun j a a' h1 h2 => by
  match j,h1,h2 with
  | 0,h1,h2 => simp [TClass.encO] at h1; simp [TClass.enc] at h2; subst h1; subst h2; exact .refl _
  | 1,h1,h2 => simp [TClass.encO] at h1; simp [TClass.enc] at h2; subst h1; subst h2; exact .refl _
  | 2,h1,h2 => simp [TClass.encO] at h1; simp [TClass.enc] at h2; subst h1; subst h2; exact view_OField (fun o ho => h o (by simp [TClass.inn,ho]))
  | 3,h1,h2 => simp [TClass.encO] at h1; simp [TClass.enc] at h2; subst h1; subst h2; exact view_flat (fun o ho => h o (by simp [TClass.inn,ho])) TMethod.flat.cells
  | j + 4,h1,h2 => simp [TClass.encO] at h1
theorem view_OClass {S : List AObj} {s : SL TClass} (hs : ∀ o,o ∈ s.wood 4 TClass.encO TClass.inn → o ∈ S) : View S (s.ref 4) (s.av 4 TClass.enc) :=
  view_wood hs (fun x => TClass.cells x) (fun _ => rfl) fun x h => TClass.viewO x h
theorem toClassO {x : TClass} (h : x.sz ≤ 1048576) (c : Nat) : Con Tryz.prog 57 [.agg x.enc] [] c fun r O _ => ∃ b : TClass,r = .agg b.encO ∧ O = b.inn ∧ b.con = x.con := by
  simp only [TClass.sz] at h
  refine con_of c57 (by simp [F57]) ?_
  unfold F57
  simp [putA]
  refine call_new (toFieldSO (by omega) _) (Views.refl _ _) fun r1 O1 c1 hc1 ⟨b1,hr,hO,q1⟩ _ _ => ?_
  subst hr; subst hO
  refine ⟨_,.refl _,free_ref _ _ _,fun o ho => free_wood TField.freeO TField.freeI _ o ho _,?_⟩
  simp [putA]
  refine call_new (toMethodSO (by omega) _) (Views.refl _ _) fun r2 O2 c2 hc2 ⟨b2,hr,hO,q2⟩ _ _ => ?_
  subst hr; subst hO
  refine ⟨_,.refl _,free_ref _ _ _,fun o ho => flat_free TMethod.flat _ _ o ho _,?_⟩
  simp [putA]
  refine fin_sub (Hk := b1.wood 8 TField.encO TField.inn ++ (b2.wood 5 TMethod.enc noInn)) ?_ (.refl _) ⟨⟨x.Name,x.Parent,b1,b2⟩,rfl,by simp [TClass.inn],by simp [TClass.con,SL.con,SL.pcon,q1,q2]⟩
  exact ((List.Sublist.refl _).cons _).cons _ |>.cons _
theorem toClassSO {s : SL TClass} (h : szClassS s ≤ 1048576) (c : Nat) : Con Tryz.prog 28 [s.av 4 TClass.enc] [] c fun r H' _ => ∃ b : SL TClass,r = b.ref 4 ∧ H' = b.wood 4 TClass.encO TClass.inn ∧ b.list.map TClass.con = s.list.map TClass.con := by
  unfold szClassS at h
  exact toSO_fn (g := 57) (z := [.str [],.str [],.nsl,.nsl]) (bytes := 80) c28 rfl (fun _ => rfl) (fun _ => rfl) TClass.freeO TClass.freeI (by omega) (by omega)
    (fun x hx c => toClassO (by have := szL_mem (sz := TClass.sz) hx; omega) c) c
def mkClass (k : Int) (x : TClass) : TClass := ⟨mtext k,mtext (k + 1),x.Fields.marks mkField cField (k + 1 + 1),x.Methods.marks mkMethod cMethod (k + 1 + 1 + szL cField x.Fields.list)⟩
def cClass (x : TClass) : Nat := 2 + szL cField x.Fields.list + szL cMethod x.Methods.list
theorem markClass_nil (k : Int) : Fnc Tryz.prog 38 [.nsl,.int .i64 k] (.int .i64 k) := by
  refine fn_of c38 (by simp [F38]) fun c => ?_
  unfold F38
  simp
  refine loop_drop 0 (fun i e H c' => e 0 = .nsl ∧ e 1 = .int .i64 k ∧ e 5 = .int .i64 0 ∧ H = []) ⟨rfl,rfl,rfl,rfl⟩ ?_
  intro i e H c hi ⟨e0,e1,e5,hH⟩ N hN
  subst hH
  simp [e0,e1,e5]
  exact fin_plain ⟨rfl,rfl⟩
theorem szL_cClass (l : List TClass) : l.length ≤ szL cClass l := by
  induction l with
  | nil => simp
  | cons x l ih => simp [szL,cClass] at ih ⊢; omega
theorem mkClass_encO (k : Int) (x : TClass) : (mkClass k x).encO = [.str (mtext (k)),.str (mtext (k + 1)),x.Fields.ref 8,x.Methods.ref 5] := by
  simp [mkClass,TClass.encO,SL.marks_ref]
theorem mkClass_tags (k : Int) (x : TClass) : tags (mkClass k x).inn = tags x.inn := by
  have eT : ∀ X Y : List AObj,tags (X ++ Y) = tags X ++ tags Y := fun X Y => by simp [tags]
  simp only [TClass.inn,mkClass,vItems,eT,tags_wood (w := 8) (encO := TField.encO) (inn := TField.inn) (mk := mkField) (cnt := cField) mkField_tags,flat_marks (enc := TMethod.enc) (w := 5) mkMethod cMethod]
theorem markClass_con1 {l : List TClass} (hz : szL cClass l ≤ 16777216) {k : Int} (hk : 0 ≤ k ∧ k ≤ 274877906944) (t c : Nat) :
    Con Tryz.prog 38 [.ref 0 t 4 l.length,.int .i64 k] (wood t 4 TClass.encO TClass.inn l) c fun r H' _ => r = .int .i64 (k + szL cClass l) ∧ H' = wood t 4 TClass.encO TClass.inn (mks mkClass cClass k l) := by
  have hln := szL_cClass l
  refine con_of c38 (by simp [F38]) ?_
  unfold F38
  simp
  refine loop_drop l.length (fun i e H c' => e 0 = .ref 0 t 4 l.length ∧ e 1 = .int .i64 (k + szL cClass (l.take i)) ∧ e 5 = .int .i64 i ∧ H = ⟨false,t,4,(mixed mkClass cClass k l i).map TClass.encO⟩ :: (mixed mkClass cClass k l i).flatMap TClass.inn) ⟨rfl,by simp [szL],rfl,by rw [mixed_zero]; rfl⟩ ?_
  intro i e H c hi ⟨e0,e1,e5,hH⟩ N hN
  subst hH
  have hs := mixed_set mkClass cClass k l (i := i)
  have hst := fun h : i < l.length => szL_step cClass l h
  have hle := szL_le cClass l i
  have hle1 := szL_le cClass l (i + 1)
  have hfl := fun h : i < l.length => mixed_flat (mk := mkClass) (cnt := cClass) (k := k) (inn := TClass.inn) h
  have hfl' := fun h : i < l.length => mixed_flat' (mk := mkClass) (cnt := cClass) (k := k) (inn := TClass.inn) h
  generalize hjj : k + (szL cClass (l.take i) : Int) = j at e1 hs hfl'
  simp [e0,e1,e5]
  refine ⟨fun h => ?_,fun h => ?_⟩
  · have hs := hs h
    have hst := hst h
    have hg := mixed_get mkClass cClass k l h
    have hx := szL_mem (sz := cClass) (List.getElem_mem h)
    rw [hfl h]
    have hfl' := hfl' h
    generalize l[i] = x at hs hst hg hx hfl'
    generalize (mks mkClass cClass k (l.take i)).flatMap TClass.inn = PRE at hfl' ⊢
    generalize (l.drop (i + 1)).flatMap TClass.inn = POST at hfl' ⊢
    simp only [cClass] at hx hst
    have w0 : IntKind.i64.wrap (j + 1) = j + 1 := wrap64 (by omega) (by omega)
    have w1 : IntKind.i64.wrap (j + 1 + 1) = j + 1 + 1 := wrap64 (by omega) (by omega)
    refine call_fn0 (mtext_fn (by omega)) .str fun _ _ => ?_
    simp [e0,e1,e5,h]
    refine ⟨_,hg,?_⟩
    simp [e0,e1,e5,h,mixed_len,w0,w1,putA,TClass.encO,TClass.inn]
    refine call_fn0 (mtext_fn (by omega)) .str fun _ _ => ?_
    simp [e0,e1,e5,h,mixed_len,w0,w1,putA,TClass.encO,TClass.inn]
    refine call_midr (f := 74) (B := x.Fields.wood 8 TField.encO TField.inn) (markField_con (s := x.Fields) (by omega) (k := j + 1 + 1) ⟨by omega,by omega⟩ _) (Views.refl _ _) fun r B' c' hc ⟨q1,q2⟩ => ?_
    subst q1; subst q2
    refine ⟨tags_wood (w := 8) (encO := TField.encO) (inn := TField.inn) (mk := mkField) (cnt := cField) mkField_tags _ x.Fields,.int,fun o ho => free_wood TField.freeO TField.freeI _ o ho _,?_⟩
    simp [e0,e1,e5,h,mixed_len,w0,w1,putA,TClass.encO,TClass.inn]
    refine call_mid2 (f := 75) (B := x.Methods.wood 5 TMethod.enc noInn) (markMethod_con (s := x.Methods) (by omega) (k := j + 1 + 1 + szL cField x.Fields.list) ⟨by omega,by omega⟩ _) (Views.refl _ _) fun r B' c' hc ⟨q1,q2⟩ => ?_
    subst q1; subst q2
    refine ⟨flat_marks (enc := TMethod.enc) (w := 5) mkMethod cMethod _ x.Methods,.int,fun o ho => flat_free TMethod.flat _ _ o ho _,?_⟩
    simp [e0,e1,e5,h,mixed_len,w0,w1,putA,TClass.encO,TClass.inn]
    refine hN _ _ _ _ h (List.Sublist.refl _) ⟨by simp [upd,e0],?_,by simp [upd]; exact step64 (by unfold mx; omega) h,?_⟩
    · simp [upd,w0,w1,hst]; omega
    · rw [hfl',← hs,List.map_set,mkClass_encO]
      simp [mkClass,TClass.inn]
  · have h1 : i = l.length := by omega
    subst h1
    refine fin_all ⟨?_,?_⟩
    · rw [← hjj]; simp
    · rw [mixed_all]; rfl
theorem markClass_con {s : SL TClass} (hz : szL cClass s.list ≤ 16777216) {k : Int} (hk : 0 ≤ k ∧ k ≤ 274877906944) (c : Nat) :
    Con Tryz.prog 38 [s.ref 4,.int .i64 k] (s.wood 4 TClass.encO TClass.inn) c fun r H' _ => r = .int .i64 (k + szL cClass s.list) ∧ H' = (s.marks mkClass cClass k).wood 4 TClass.encO TClass.inn := by
  cases s with
  | nil =>
    have := markClass_nil k c
    simpa [SL.ref,SL.wood,SL.marks,szL] using this
  | mk t l =>
    have := markClass_con1 (l := l) hz hk t c
    exact this
def TProgram.encO (s : TProgram) : List AV := [s.Funcs.ref 6,s.Classes.ref 4]
def TProgram.inn (s : TProgram) : List AObj := s.Funcs.wood 6 TFunc.encO TFunc.inn ++ (s.Classes.wood 4 TClass.encO TClass.inn)
@[simp] theorem TProgram.lenO (s : TProgram) : s.encO.length = 2 := (rfl)
@[simp] theorem TProgram.allO (s : TProgram) : s.encO.take 2 = s.encO := (rfl)
@[simp] theorem TProgram.o0 (s : TProgram) (K : AV → Prop) : getW s.encO 0 K = K (s.Funcs.ref 6) := by simp [TProgram.encO]
@[simp] theorem TProgram.o1 (s : TProgram) (K : AV → Prop) : getW s.encO 1 K = K (s.Classes.ref 4) := by simp [TProgram.encO]
theorem TProgram.freeO : ∀ (x : TProgram) a,a ∈ x.encO → Free a := fun x a ha => by
  simp [TProgram.encO] at ha
  rcases ha with rfl | rfl
  · exact free_ref _ _
  · exact free_ref _ _
theorem TProgram.freeI : ∀ (x : TProgram) o,o ∈ x.inn → ∀ T,AvRows T o := fun x o ho => by
  simp only [TProgram.inn,List.mem_append] at ho
  rcases ho with ho | ho
  · exact free_wood TFunc.freeO TFunc.freeI _ o ho
  · exact free_wood TClass.freeO TClass.freeI _ o ho
theorem TProgram.viewO {S : List AObj} (x : TProgram) (h : ∀ o,o ∈ x.inn → o ∈ S) : ∀ (j : Nat) (a a' : AV),x.encO[j]? = some a → x.enc[j]? = some a' → View S a a' := fun j a a' h1 h2 => by
  match j,h1,h2 with
  | 0,h1,h2 => simp [TProgram.encO] at h1; simp [TProgram.enc] at h2; subst h1; subst h2; exact view_OFunc (fun o ho => h o (by simp [TProgram.inn,ho]))
  | 1,h1,h2 => simp [TProgram.encO] at h1; simp [TProgram.enc] at h2; subst h1; subst h2; exact view_OClass (fun o ho => h o (by simp [TProgram.inn,ho]))
  | j + 2,h1,h2 => simp [TProgram.encO] at h1
theorem view_AProgram {S : List AObj} {s : TProgram} (hs : ∀ o,o ∈ s.inn → o ∈ S) : View S (.agg s.encO) (.agg s.enc) :=
  .agg rfl (fun j a ha => TProgram.cells s a (List.mem_of_getElem? ha)) (TProgram.viewO s hs)
theorem toProgramO {x : TProgram} (h : x.sz ≤ 1048576) (c : Nat) : Con Tryz.prog 9 [.agg x.enc] [] c fun r O _ => ∃ b : TProgram,r = .agg b.encO ∧ O = b.inn ∧ b.con = x.con := by
  simp only [TProgram.sz] at h
  refine con_of c9 (by simp [F9]) ?_
  unfold F9
  simp [putA]
  refine call_new (toFuncSO (by omega) _) (Views.refl _ _) fun r1 O1 c1 hc1 ⟨b1,hr,hO,q1⟩ _ _ => ?_
  subst hr; subst hO
  refine ⟨_,.refl _,free_ref _ _ _,fun o ho => free_wood TFunc.freeO TFunc.freeI _ o ho _,?_⟩
  simp [putA]
  refine call_new (toClassSO (by omega) _) (Views.refl _ _) fun r2 O2 c2 hc2 ⟨b2,hr,hO,q2⟩ _ _ => ?_
  subst hr; subst hO
  refine ⟨_,.refl _,free_ref _ _ _,fun o ho => free_wood TClass.freeO TClass.freeI _ o ho _,?_⟩
  simp [putA]
  refine fin_sub (Hk := b1.wood 6 TFunc.encO TFunc.inn ++ (b2.wood 4 TClass.encO TClass.inn)) ?_ (.refl _) ⟨⟨b1,b2⟩,rfl,by simp [TProgram.inn],by simp [TProgram.con,SL.con,SL.pcon,q1,q2]⟩
  exact ((List.Sublist.refl _).cons _).cons _ |>.cons _
set_option maxRecDepth 100000
theorem from_sl {α : Type} {enc : α → List AV} {c w : Nat} {l : List α} (h : ∀ x,x ∈ l → ∀ a,a ∈ enc x → From c a) : From c ((SL.mk c l).av w enc) :=
  from_slc (Nat.le_refl _) fun row hr a ha => by
    obtain ⟨x,hx,rfl⟩ := List.mem_map.1 hr
    exact h x hx a ha
def TLine.at (c : Nat) (s : TLine) : TLine := { s with Words := .mk c s.Words.list }
theorem TLine.at_con (c : Nat) (s : TLine) : (s.at c).con = s.con := by
  simp [TLine.at,TLine.con,SL.con,SL.pcon,List.map_map,Function.comp_def]
theorem TLine.at_from (c : Nat) (s : TLine) : ∀ a,a ∈ (s.at c).enc → From c a := fun a ha => by
  simp only [TLine.enc,List.mem_cons,List.not_mem_nil,or_false] at ha
  rcases ha with rfl | rfl | rfl | rfl
  · simp
  · simp
  · simp
  · exact from_sl fun y hy a ha => by
      simp [encI,encS,encB] at ha; subst ha; simp
def TParam.at (c : Nat) (s : TParam) : TParam := s
theorem TParam.at_con (c : Nat) (s : TParam) : (s.at c).con = s.con := rfl
theorem TParam.at_from (c : Nat) (s : TParam) : ∀ a,a ∈ (s.at c).enc → From c a := fun a ha => by
  simp only [TParam.enc,List.mem_cons,List.not_mem_nil,or_false] at ha
  rcases ha with rfl | rfl
  · simp
  · simp
def TIns.at (c : Nat) (s : TIns) : TIns := s
theorem TIns.at_con (c : Nat) (s : TIns) : (s.at c).con = s.con := rfl
theorem TIns.at_from (c : Nat) (s : TIns) : ∀ a,a ∈ (s.at c).enc → From c a := fun a ha => by
  simp only [TIns.enc,List.mem_cons,List.not_mem_nil,or_false] at ha
  rcases ha with rfl | rfl | rfl | rfl | rfl
  · simp
  · simp
  · simp
  · simp
  · simp
def TFunc.at (c : Nat) (s : TFunc) : TFunc := { s with Params := .mk c (s.Params.list.map (TParam.at c)),Uses := .mk c (s.Uses.list.map (TParam.at c)),Slots := .mk c s.Slots.list,Code := .mk c (s.Code.list.map (TIns.at c)) }
theorem TFunc.at_con (c : Nat) (s : TFunc) : (s.at c).con = s.con := by
  simp [TFunc.at,TFunc.con,SL.con,SL.pcon,List.map_map,Function.comp_def,TIns.at_con,TParam.at_con]
theorem TFunc.at_from (c : Nat) (s : TFunc) : ∀ a,a ∈ (s.at c).enc → From c a := fun a ha => by
  simp only [TFunc.enc,List.mem_cons,List.not_mem_nil,or_false] at ha
  rcases ha with rfl | rfl | rfl | rfl | rfl | rfl
  · simp
  · exact from_sl fun y hy a ha => by
      obtain ⟨z,_,rfl⟩ := List.mem_map.1 hy
      exact TParam.at_from c z a ha
  · exact from_sl fun y hy a ha => by
      obtain ⟨z,_,rfl⟩ := List.mem_map.1 hy
      exact TParam.at_from c z a ha
  · exact from_sl fun y hy a ha => by
      simp [encI,encS,encB] at ha; subst ha; simp
  · simp
  · exact from_sl fun y hy a ha => by
      obtain ⟨z,_,rfl⟩ := List.mem_map.1 hy
      exact TIns.at_from c z a ha
def TMethod.at (c : Nat) (s : TMethod) : TMethod := s
theorem TMethod.at_con (c : Nat) (s : TMethod) : (s.at c).con = s.con := rfl
theorem TMethod.at_from (c : Nat) (s : TMethod) : ∀ a,a ∈ (s.at c).enc → A.From c a := fun a ha => by
  simp only [TMethod.enc,List.mem_cons,List.not_mem_nil,or_false] at ha
  rcases ha with rfl | rfl | rfl | rfl | rfl
  · simp
  · simp
  · simp
  · simp
  · simp
def TValue.at (c : Nat) : TValue → TValue
  | .mk k n s x I => .mk k n s x (match I with | .nil => .mk c [] | .mk _ xs => .mk c (xs.attach.map fun e => (e.1.1,TValue.at c e.1.2)))
termination_by v => SizeOf.sizeOf v
decreasing_by exact items_lt (I := .mk _ xs) e.2
def atE (c : Nat) (e : TKey × TValue) : TKey × TValue := (e.1,e.2.at c)
theorem TValue.at_mk (c : Nat) (k n : Int) (s : List UInt8) (x : Int) (I : SL (TKey × TValue)) : (TValue.mk k n s x I).at c = .mk k n s x (.mk c (I.list.map (atE c))) := by
  rw [TValue.at.eq_def]
  cases I with
  | nil => rfl
  | mk t xs =>
    show TValue.mk k n s x (.mk c _) = .mk k n s x (.mk c (xs.map (atE c)))
    rw [show (xs.attach.map fun e => (e.1.1,TValue.at c e.1.2)) = xs.map (atE c) from by
      rw [show (fun e : { x // x ∈ xs } => (e.1.1,TValue.at c e.1.2)) = atE c ∘ Subtype.val from rfl,← List.map_map,List.attach_map_subtype_val]]
theorem TValue.at_con (c : Nat) : ∀ v : TValue,(v.at c).con = v.con := TValue.ind fun k n s x I ih => by
  rw [TValue.at_mk,TValue.con_mk,TValue.con_mk,SL.list_mk,List.map_map]
  congr 2
  refine List.map_congr_left fun e he => ?_
  show (e.1,(e.2.at c).con) = (e.1,e.2.con)
  rw [ih e he]
theorem TValue.at_from (c : Nat) : ∀ v : TValue,∀ a,a ∈ (v.at c).enc → From c a := TValue.ind fun k n s x I ih a ha => by
  rw [TValue.at_mk,TValue.enc_mk] at ha
  simp only [List.mem_cons,List.not_mem_nil,or_false] at ha
  rcases ha with rfl | rfl | rfl | rfl | rfl
  · simp
  · simp
  · simp
  · simp
  · refine from_sl fun y hy a ha => ?_
    obtain ⟨z,hz,rfl⟩ := List.mem_map.1 hy
    simp only [encE,atE,TKey.enc,List.mem_append,List.mem_cons,List.not_mem_nil,or_false] at ha
    rcases ha with (rfl | rfl | rfl) | ha
    · simp
    · simp
    · simp
    · exact ih z hz a ha
def TField.at (c : Nat) (s : TField) : TField := { s with Init := s.Init.at c }
theorem TField.at_con (c : Nat) (s : TField) : (s.at c).con = s.con := by simp [TField.at,TField.con,TValue.at_con]
theorem TField.at_from (c : Nat) (s : TField) : ∀ a,a ∈ (s.at c).enc → From c a := fun a ha => by
  have e : (s.at c).enc = [.str s.Name,.str s.Owner,.bool s.Private] ++ (s.Init.at c).enc := by rw [TValue.enc_eq]; rfl
  rw [e] at ha
  simp only [List.mem_append,List.mem_cons,List.not_mem_nil,or_false] at ha
  rcases ha with (rfl | rfl | rfl) | ha
  · simp
  · simp
  · simp
  · exact TValue.at_from c s.Init a ha
def TClass.at (c : Nat) (s : TClass) : TClass := { s with Fields := .mk c (s.Fields.list.map (TField.at c)),Methods := .mk c (s.Methods.list.map (TMethod.at c)) }
theorem TClass.at_con (c : Nat) (s : TClass) : (s.at c).con = s.con := by
  simp [TClass.at,TClass.con,SL.con,SL.pcon,List.map_map,Function.comp_def,TField.at_con,TMethod.at_con]
theorem TClass.at_from (c : Nat) (s : TClass) : ∀ a,a ∈ (s.at c).enc → From c a := fun a ha => by
  simp only [TClass.enc,List.mem_cons,List.not_mem_nil,or_false] at ha
  rcases ha with rfl | rfl | rfl | rfl
  · simp
  · simp
  · exact from_sl fun y hy a ha => by
      obtain ⟨z,_,rfl⟩ := List.mem_map.1 hy
      exact TField.at_from c z a ha
  · exact from_sl fun y hy a ha => by
      obtain ⟨z,_,rfl⟩ := List.mem_map.1 hy
      exact TMethod.at_from c z a ha
def TProgram.at (c : Nat) (s : TProgram) : TProgram := { s with Funcs := .mk c (s.Funcs.list.map (TFunc.at c)),Classes := .mk c (s.Classes.list.map (TClass.at c)) }
theorem TProgram.at_con (c : Nat) (s : TProgram) : (s.at c).con = s.con := by
  simp [TProgram.at,TProgram.con,SL.con,SL.pcon,List.map_map,Function.comp_def,TFunc.at_con,TClass.at_con]
theorem TProgram.at_from (c : Nat) (s : TProgram) : ∀ a,a ∈ (s.at c).enc → From c a := fun a ha => by
  simp only [TProgram.enc,List.mem_cons,List.not_mem_nil,or_false] at ha
  rcases ha with rfl | rfl
  · exact from_sl fun y hy a ha => by
      obtain ⟨z,_,rfl⟩ := List.mem_map.1 hy
      exact TFunc.at_from c z a ha
  · exact from_sl fun y hy a ha => by
      obtain ⟨z,_,rfl⟩ := List.mem_map.1 hy
      exact TClass.at_from c z a ha
set_option maxRecDepth 100000
theorem mark_inA {α : Type} {P : Program} {f w : Nat} {encO : α → List AV} {inn : α → List AObj} {mk : Int → α → α} {cnt : α → Nat} {K : AV → List AObj → Nat → Prop} {A C : List AObj} {s : SL α} {k n : Int} {c : Nat}
    (hf : Con P f [s.ref w,.int .i64 k] (s.wood w encO inn) c fun r H' _ => r = .int .i64 n ∧ H' = (s.marks mk cnt k).wood w encO inn)
    (hi : ∀ k x,tags (inn (mk k x)) = tags (inn x)) (hO : ∀ x a,a ∈ encO x → Free a) (hI : ∀ x o,o ∈ inn x → ∀ T,AvRows T o) {H X : List AObj} {B : AObj} (hH : H = A ++ (s.wood w encO inn ++ C)) (hX : A ++ ((s.marks mk cnt k).wood w encO inn ++ C) = X ++ [B]) (kk : ∀ c',c ≤ c' → K (.int .i64 n) (X ++ [B]) c') :
    CallW P f [s.ref w,.int .i64 k] H c K := by
  rw [hH,← List.append_assoc]
  exact mark_mid hf hi hO hI fun c' h => by rw [List.append_assoc,hX]; exact kk c' h
theorem marks_wood_len {α : Type} {w : Nat} {encO : α → List AV} {inn : α → List AObj} {mk : Int → α → α} {cnt : α → Nat} (hi : ∀ k x,tags (inn (mk k x)) = tags (inn x)) (k : Int) (s : SL α) : ((s.marks mk cnt k).wood w encO inn).length = (s.wood w encO inn).length := by
  have := congrArg List.length (tags_wood (w := w) (encO := encO) (cnt := cnt) hi k s)
  simpa [tags] using this
theorem getW_endN {α : Type} {X : List α} {B : α} {n : Nat} (h : X.length = n) (K : α → Prop) : getW (X ++ [B]) n K = K B := getW_of (by rw [List.getElem?_append_right (by omega)]; simp [h]) K
def mkProgram (k : Int) (s : TProgram) : TProgram := ⟨s.Funcs.marks mkFunc cFunc k,s.Classes.marks mkClass cClass (k + szL cFunc s.Funcs.list)⟩
def cProgram (s : TProgram) : Nat := szL cFunc s.Funcs.list + szL cClass s.Classes.list
theorem mkProgram_tags (k : Int) (s : TProgram) : tags (mkProgram k s).inn = tags s.inn := by
  have eT : ∀ X Y : List AObj,tags (X ++ Y) = tags X ++ tags Y := fun X Y => by simp [tags]
  unfold TProgram.inn
  simp only [eT,mkProgram]
  rw [tags_wood (w := 6) (encO := TFunc.encO) (inn := TFunc.inn) (mk := mkFunc) (cnt := cFunc) mkFunc_tags,tags_wood (w := 4) (encO := TClass.encO) (inn := TClass.inn) (mk := mkClass) (cnt := cClass) mkClass_tags]
theorem mkProgram_len (k : Int) (s : TProgram) : (mkProgram k s).inn.length = s.inn.length := by
  have := congrArg List.length (mkProgram_tags k s)
  simpa [tags] using this
theorem markProgram_con {s : TProgram} (z1 : szL cFunc s.Funcs.list ≤ 16777216) (z2 : szL cClass s.Classes.list ≤ 16777216) {k : Int} (hk : 0 ≤ k ∧ k ≤ 137438953472) (c : Nat) :
    Con Tryz.prog 14 [.agg s.encO,.int .i64 k] s.inn c fun r O _ => r = .int .i64 (k + cProgram s) ∧ O = (mkProgram k s).inn := by
  refine con_of c14 (by simp [F14]) ?_
  unfold F14
  simp
  generalize hn : s.inn.length = n
  unfold TProgram.inn at hn ⊢
  have hn0 := hn
  simp only [List.length_append] at hn
  have l0 := marks_wood_len (w := 6) (encO := TFunc.encO) (inn := TFunc.inn) (mk := mkFunc) (cnt := cFunc) mkFunc_tags k s.Funcs
  have l1 := marks_wood_len (w := 4) (encO := TClass.encO) (inn := TClass.inn) (mk := mkClass) (cnt := cClass) mkClass_tags (k + szL cFunc s.Funcs.list) s.Classes
  obtain ⟨X0,hX0⟩ : ∃ X : List AObj,X = ((s.Funcs.marks mkFunc cFunc k).wood 6 TFunc.encO TFunc.inn) ++ (s.Classes.wood 4 TClass.encO TClass.inn) := ⟨_,rfl⟩
  have hl0 : X0.length = n := by rw [hX0]; simp only [List.length_append]; omega
  refine mark_inA (A := []) (C := (s.Classes.wood 4 TClass.encO TClass.inn) ++ ([(⟨false,c,2,[s.encO]⟩ : AObj)])) (markFunc_con (s := s.Funcs) z1 (k := k) ⟨by omega,by omega⟩ _) mkFunc_tags TFunc.freeO TFunc.freeI (X := X0) (B := ⟨false,c,2,[s.encO]⟩) (by simp) (by rw [hX0]; simp) fun c0 _ => ?_
  simp [getW_endN hl0]
  obtain ⟨X1,hX1⟩ : ∃ X : List AObj,X = ((s.Funcs.marks mkFunc cFunc k).wood 6 TFunc.encO TFunc.inn) ++ ((s.Classes.marks mkClass cClass (k + szL cFunc s.Funcs.list)).wood 4 TClass.encO TClass.inn) := ⟨_,rfl⟩
  have hl1 : X1.length = n := by rw [hX1]; simp only [List.length_append]; omega
  refine mark_inA (A := ((s.Funcs.marks mkFunc cFunc k).wood 6 TFunc.encO TFunc.inn)) (C := [(⟨false,c,2,[s.encO]⟩ : AObj)]) (markClass_con (s := s.Classes) z2 (k := k + szL cFunc s.Funcs.list) ⟨by omega,by omega⟩ _) mkClass_tags TClass.freeO TClass.freeI (X := X1) (B := ⟨false,c,2,[s.encO]⟩) (by rw [hX0]; simp) (by rw [hX1]; simp) fun c1 _ => ?_
  simp [getW_endN hl1]
  refine fin_sub (Hk := X1) (List.sublist_append_left _ _) (.refl _) ⟨?_,?_⟩
  · simp [cProgram]; omega
  · rw [hX1]; rfl
theorem szL_lin {α : Type} (f g : α → Nat) (a b : Nat) : ∀ (l : List α),(∀ x,x ∈ l → f x ≤ a * g x + b) → szL f l ≤ a * szL g l + b * l.length
  | [],_ => by simp [szL]
  | x :: l,h => by
    have ih := szL_lin f g a b l fun y hy => h y (List.mem_cons_of_mem _ hy)
    have hx := h x (List.mem_cons_self ..)
    simp only [szL,List.map_cons,List.sum_cons,List.length_cons] at ih ⊢
    rw [Nat.mul_add,Nat.mul_add]
    omega
theorem cR_le : ∀ v : TValue,v.cR ≤ 7 * v.sz := TValue.ind fun k n s x I ih => by
  rw [cR_eq,TValue.sz_mk]
  show szL cEntry I.list ≤ _
  have := szL_lin cEntry szE 7 7 I.list fun e he => by
    have := ih e he
    show 7 + e.2.cR ≤ 7 * (e.1.Str.length + e.2.sz) + 7
    omega
  omega
theorem cFunc_le (f : TFunc) : cFunc f ≤ 5 * f.sz + 2 := by
  have hz2 : f.sz = f.Name.length + (f.Params.list.length + szL TParam.sz f.Params.list) + (f.Uses.list.length + szL TParam.sz f.Uses.list) + (f.Slots.list.length + szL List.length f.Slots.list) + (f.Code.list.length + szL TIns.sz f.Code.list) := rfl
  have h1 := szL_eParam f.Params.list
  have h2 := szL_eParam f.Uses.list
  have h3 := szL_cS f.Slots.list
  have h4 := szL_eIns f.Code.list
  have h5 : cFunc f = 2 + szL cParam f.Params.list + szL cParam f.Uses.list + szL cS f.Slots.list + szL cIns f.Code.list := rfl
  omega
theorem cField_le (f : TField) : cField f ≤ 7 * f.sz + 7 := by
  have hz2 : f.sz = f.Name.length + f.Owner.length + f.Init.sz := rfl
  have h1 := cR_le f.Init
  rw [cR_eq] at h1
  have h5 : cField f = 7 + szL cEntry f.Init.Items.list := rfl
  omega
theorem cClass_le (c : TClass) : cClass c ≤ 7 * c.sz + 2 := by
  have hz2 : c.sz = c.Name.length + c.Parent.length + (c.Fields.list.length + szL TField.sz c.Fields.list) + (c.Methods.list.length + szL TMethod.sz c.Methods.list) := rfl
  have h1 := szL_lin cField TField.sz 7 7 c.Fields.list fun x _ => cField_le x
  have h2 := szL_eMethod c.Methods.list
  have h5 : cClass c = 2 + szL cField c.Fields.list + szL cMethod c.Methods.list := rfl
  omega
theorem prog_bounds {p : TProgram} (h : p.sz ≤ 1048576) : szL cFunc p.Funcs.list ≤ 16777216 ∧ szL cClass p.Classes.list ≤ 16777216 := by
  have hz2 : p.sz = (p.Funcs.list.length + szL TFunc.sz p.Funcs.list) + (p.Classes.list.length + szL TClass.sz p.Classes.list) := rfl
  have h1 := szL_lin cFunc TFunc.sz 5 2 p.Funcs.list fun x _ => cFunc_le x
  have h2 := szL_lin cClass TClass.sz 7 2 p.Classes.list fun x _ => cClass_le x
  omega
def LinQ (s : SL TLine) (r : AV) : Prop := ∃ b : SL TLine,r = b.av 4 TLine.enc ∧ b.list.map TLine.con = s.list.map TLine.con
def PrgQ (p : TProgram) (r : AV) : Prop := ∃ b : TProgram,r = .agg b.enc ∧ b.con = p.con
def PubV (s : SL TLine) (at_ v : Int) (p : TProgram) (r : AV) : Prop := ∃ b : SL TLine,r = .tup [b.av 4 TLine.enc,.bool (pubOk s.list at_ v p)] ∧ b.list.map TLine.con = (pubL s.list at_ v p).map TLine.con
theorem lines_at (c : Nat) (l : List TLine) : From c ((SL.mk c (l.map (TLine.at c))).av 4 TLine.enc) := from_sl fun y hy a ha => by
  obtain ⟨z,_,rfl⟩ := List.mem_map.1 hy
  exact TLine.at_from c z a ha
theorem lines_at_con (c : Nat) (l : List TLine) : (l.map (TLine.at c)).map TLine.con = l.map TLine.con := by
  rw [List.map_map]; exact List.map_congr_left fun x _ => TLine.at_con c x
theorem linQ_some (s : SL TLine) (c : Nat) : ∃ r,LinQ s r ∧ From c r := ⟨_,⟨.mk c (s.list.map (TLine.at c)),rfl,lines_at_con c _⟩,lines_at c _⟩
theorem prgQ_some (p : TProgram) (c : Nat) : ∃ r,PrgQ p r ∧ From c r := ⟨_,⟨p.at c,rfl,TProgram.at_con c p⟩,from_agg (TProgram.at_from c p)⟩
theorem pubV_some (s : SL TLine) (at_ v : Int) (p : TProgram) (c : Nat) : ∃ r,PubV s at_ v p r ∧ From c r := ⟨_,⟨.mk c ((pubL s.list at_ v p).map (TLine.at c)),rfl,lines_at_con c _⟩,from_tup fun a ha => by
  simp at ha
  rcases ha with rfl | rfl
  · exact lines_at c _
  · simp⟩
theorem tr_mono {P : Program} {f : Nat} {args : List AV} {Q Q' : Nat → AV → Prop} (h : Tr P f args Q) (k : ∀ c r,Q c r → Q' c r) : Tr P f args Q' := fun c => (h c).mono fun r H' c' _ ⟨h1,h2,h3⟩ => ⟨h1,k c r h2,h3⟩
theorem pubF {s : SL TLine} {at_ v : Int} {p : TProgram} (b : SL TLine) (l : List AV) (h : PubR s at_ v p b l) : ∀ a,a ∈ l → Free a := fun a ha => by
  rw [h.1] at ha; simp at ha; subst ha; exact free_bool _
theorem spec_pubV {s x : SL TLine} {at_ v : Int} {p q : TProgram} (hn : x.list.length ≤ 1048576) (hz : ∀ y,y ∈ x.list → y.Words.list.length ≤ 1048576) (hqz : q.sz ≤ 1048576) (hx : x.list.map TLine.con = s.list.map TLine.con) (hq : q.con = p.con) :
    Tr Tryz.prog 7 [x.av 4 TLine.enc,.int .i64 at_,.int .i64 v,.agg q.enc] fun _ r => PubV s at_ v p r :=
  tr_mono (line_tr2 pubF (spec_pubO hn hz hqz)) fun _ r ⟨b,l,hr,h1,h2⟩ => by
    obtain ⟨e1,e2⟩ := pub_same (at_ := at_) (v := v) hx hq
    exact ⟨b,by rw [hr,h1,e1],by rw [h2,e2]⟩
theorem impl_pubV {s x : SL TLine} {at_ v : Int} {p q : TProgram} (hn : x.list.length ≤ 1048576) (hz : ∀ y,y ∈ x.list → y.Words.list.length ≤ 1048576) (hqz : q.sz ≤ 1048576) (hx : x.list.map TLine.con = s.list.map TLine.con) (hq : q.con = p.con) :
    Tr Tryz.prog 10 [x.av 4 TLine.enc,.int .i64 at_,.int .i64 v,.agg q.enc] fun _ r => PubV s at_ v p r :=
  tr_mono (line_tr2 pubF (impl_pubO hn hz hqz)) fun _ r ⟨b,l,hr,h1,h2⟩ => by
    obtain ⟨e1,e2⟩ := pub_same (at_ := at_) (v := v) hx hq
    exact ⟨b,by rw [hr,h1,e1],by rw [h2,e2]⟩
theorem callD_fnV {P : Program} {H : List AObj} {c : Nat} {R : AV → Prop} {f : Nat} {l l' : List AV} {K : AV → Prop} {res : AV} (hf : Fnc P f l' res) (hv : Views H l l') (hR : ∀ v,R v ↔ v = res) (hfr : ∀ c,From c res) (k : K res) : callD P R f l H c K :=
  ⟨l',hv,(fun c => (hf c).mono fun r H' c' _ ⟨h1,h2⟩ => ⟨h2,(hR r).2 h1,h1 ▸ hfr c⟩),⟨res,(hR res).2 rfl,hfr c⟩,fun r hr _ => by rw [(hR r).1 hr]; exact k⟩
theorem pub_bounds {l : List TLine} {at_ v : Int} {p : TProgram} (h : l.length + szL TLine.sz l ≤ 1048576) :
    ∀ b : SL TLine,b.list.map TLine.con = (pubL l at_ v p).map TLine.con → szL cLine b.list ≤ 8388608 ∧ (∀ x,x ∈ b.list → x.Words.list.length ≤ 1048576) ∧ szLineS b ≤ 1099511627776 := fun b hb => by
  by_cases hi : imgOk p
  · rw [pubL_yes hi] at hb
    exact wr_bounds (at_ := at_) (v := v) (ws := imgW p) h (by rw [imgW_yes hi]; have := pack_len _ hi.2; simp; omega) b hb
  · rw [pubL_no hi] at hb
    have hz : szLineS b = l.length + szL TLine.sz l := by
      have := szLineS_con (s := b) (t := .mk 0 l) hb
      rw [this]; rfl
    have hz2 : b.list.length + szL TLine.sz b.list = l.length + szL TLine.sz l := hz
    obtain ⟨h1,h2,h3⟩ := szLine_bounds (l := b.list) (by omega)
    exact ⟨h1,h2,by omega⟩
theorem call_atH {P : Program} {K : AV → List AObj → Nat → Prop} {f : Nat} {l l' : List AV} {A B C H : List AObj} {c : Nat} {Q : AV → List AObj → Nat → Prop} (hf : Con P f l' B c Q) (hv : Views [] l l') (hH : H = A ++ (B ++ C))
    (k : ∀ r B' c',c ≤ c' → Q r B' c' → tags B' = tags B ∧ Av [] r ∧ (∀ o,o ∈ B' → AvRows [] o) ∧ K r (A ++ (B' ++ C)) c') : CallW P f l H c K := by
  rw [hH,← List.append_assoc]
  exact call_mid hf hv fun r B' c' h1 h2 => by rw [List.append_assoc]; exact k r B' c' h1 h2
set_option maxRecDepth 100000
set_option maxHeartbeats 4000000 in
theorem law_pub {s : SL TLine} {at_ v : Int} {p : TProgram} (hs : okLineS s) (hw1 : IOk .i64 at_) (hw2 : IOk .i64 v) (hp : p.ok) (c : Nat) : Con Tryz.prog 3 [s.av 4 TLine.enc,.int .i64 at_,.int .i64 v,.agg p.enc] [] c fun r H' _ => r = .bool true ∧ H' = [] := by
  refine con_of c3 (by simp [F3]) ?_
  unfold F3
  simp
  refine call_fn0 (szLineS_fn hs ⟨by omega,by omega⟩) .int fun _ _ => ?_
  simp
  refine ⟨fun _ => fin_plain ⟨rfl,rfl⟩,fun h => ?_⟩
  obtain ⟨hg1,hg2⟩ := szOf_ge h
  have hz : szLineS s ≤ 1048576 := by omega
  refine call_fn0 (TProgram.sz_fn hp ⟨by omega,by omega⟩) .int fun _ _ => ?_
  simp
  refine ⟨fun _ => fin_plain ⟨rfl,rfl⟩,fun h2 => ?_⟩
  have hpz0 : p.sz ≤ 1048576 := by have := (szOf_ge h2).2; omega
  have hz0 : s.list.length + szL TLine.sz s.list ≤ 1048576 := hz
  have hb : ∀ b : SL TLine,b.list.map TLine.con = s.list.map TLine.con → szL cLine b.list ≤ 8388608 ∧ (∀ x,x ∈ b.list → x.Words.list.length ≤ 1048576) ∧ b.list.length ≤ 1048576 := fun b hb => szLine_bounds (by have := szLineS_con hb; unfold szLineS at this hz; omega)
  have hsz : ∀ b : SL TLine,b.list.map TLine.con = s.list.map TLine.con → szLineS b ≤ 1099511627776 := fun b hb => by have := szLineS_con hb; omega
  have hpz : ∀ q : TProgram,q.con = p.con → q.sz ≤ 1048576 := fun q hq => by rw [← q.sz_con,hq,p.sz_con]; exact hpz0
  have hr := pub_bounds (at_ := at_) (v := v) (p := p) hz0
  refine ⟨fun d r => if d = 33 then LinQ s r else if d = 37 then PrgQ p r else PubV s at_ v p r,?_⟩
  simp
  refine callD_tree0 (toLineS_fn hz) (linQ_some s _) fun r ⟨b1,e1,q1⟩ _ => ?_
  subst e1
  simp
  refine callD_tree0 (TProgram.to_fn hpz0) (prgQ_some p _) fun r ⟨b2,e2,q2⟩ _ => ?_
  subst e2
  simp
  refine callD_tree0 (spec_pubV (hb _ q1).2.2 (hb _ q1).2.1 (hpz _ q2) q1 q2) (pubV_some s at_ v p _) fun r ⟨w,e3,q3⟩ _ => ?_
  subst e3
  simp
  intro c0 hc0
  refine call_new (toLineSO hz _) (Views.refl _ _) fun r3 O c3 hc3 ⟨x,e3,hO,qx⟩ _ _ => ?_
  subst e3; subst hO
  refine ⟨_,.refl _,free_ref _ _ _,fun o ho => free_wood TLine.freeO TLine.freeI _ o ho _,?_⟩
  simp
  refine call_new (toProgramO hpz0 _) (Views.refl _ _) fun r4 O c4 hc4 ⟨y,e4,hO,qy⟩ _ _ => ?_
  subst e4; subst hO
  refine ⟨_,.refl _,free_agg (TProgram.freeO y) _,fun o ho => TProgram.freeI y o ho _,?_⟩
  rw [List.cons_append]
  generalize hZ : x.wood 4 TLine.encO TLine.inn ++ y.inn = Z
  have zx : ∀ o,o ∈ x.wood 4 TLine.encO TLine.inn → o ∈ Z := fun o ho => hZ ▸ List.mem_append_left _ ho
  have zy : ∀ o,o ∈ y.inn → o ∈ Z := fun o ho => hZ ▸ List.mem_append_right _ ho
  simp [putA]
  refine call_new (impl_pubO (s := x) (p := y) (at_ := at_) (v := v) (hb _ qx).2.2 (hb _ qx).2.1 (hpz _ qy) _) (.cons (view_line (fun o ho => by simp [zx o ho])) (.cons (.refl _) (.cons (.refl _) (.cons (view_AProgram (fun o ho => by simp [zy o ho])) .nil)))) fun r5 O c5 hc5 ⟨g,lg,e5,hO,Qg⟩ _ _ => ?_
  subst e5; subst hO
  obtain ⟨hlg,qg⟩ : lg = [.bool (pubOk s.list at_ v p)] ∧ g.list.map TLine.con = (pubL s.list at_ v p).map TLine.con := by
    obtain ⟨e1,e2⟩ := pub_same (at_ := at_) (v := v) qx qy
    exact ⟨by rw [Qg.1,e1],by rw [Qg.2,e2]⟩
  subst hlg
  refine ⟨_,.refl _,free_tup (by simp [free_ref,free_bool]) _,fun o ho => free_wood TLine.freeO TLine.freeI _ o ho _,?_⟩
  simp
  have qgw : g.list.map TLine.con = w.list.map TLine.con := by rw [qg,q3]
  refine call_fn (eqLineS_fn (s := g) (t := w) (hr _ qg).2.2 qgw) (.cons (view_line (fun o ho => by simp [ho])) (.cons (.refl _) .nil)) .bool fun _ _ => ?_
  simp
  refine call_tree0 (toLineS_fn hz) fun r6 _ _ ⟨b5,e6,q5⟩ _ => ?_
  subst e6
  simp
  refine call_fn (eqLineS_fn (s := x) (t := b5) (hsz _ qx) (by rw [qx,q5])) (.cons (view_line (fun o ho => by simp [zx o ho])) (.cons (.refl _) .nil)) .bool fun _ _ => ?_
  simp
  refine ⟨fun d r => if d = 69 then PrgQ p r else r = .bool true,?_⟩
  simp
  refine callD_tree0 (TProgram.to_fn hpz0) (prgQ_some p _) fun r ⟨b6,e7,q6⟩ _ => ?_
  subst e7
  simp
  refine callD_fnV (TProgram.eq_fn (by have := hpz _ qy; omega) (qy.trans q6.symm)) (.cons (view_AProgram (fun o ho => by simp [zy o ho])) (.cons (.refl _) .nil)) (fun v => Iff.rfl) (by simp) ?_
  simp
  intro c6 _
  obtain ⟨bx1,bx2,bx3⟩ := hb _ qx
  obtain ⟨by1,by2⟩ := prog_bounds (hpz _ qy)
  obtain ⟨bg1,bg2,bg3⟩ := hr _ qg
  refine call_atH (A := [⟨false,c,2,[p.enc]⟩]) (B := x.wood 4 TLine.encO TLine.inn) (C := y.inn ++ (⟨false,c4,2,[y.encO]⟩ :: g.wood 4 TLine.encO TLine.inn)) (markLine_con (s := x) (k := 1) bx1 bx2 ⟨by omega,by omega⟩ _) (Views.refl _ _) (by rw [← hZ]; simp) fun r B' c7 _ ⟨e8,e9⟩ => ?_
  subst e8; subst e9
  refine ⟨tags_wood (w := 4) (encO := TLine.encO) (inn := TLine.inn) (mk := mkLine) (cnt := cLine) mkLine_tags 1 x,.int,fun o ho => free_wood TLine.freeO TLine.freeI _ o ho _,?_⟩
  have hl1 := marks_wood_len (w := 4) (encO := TLine.encO) (inn := TLine.inn) (mk := mkLine) (cnt := cLine) mkLine_tags 1 x
  generalize hX' : (x.marks mkLine cLine 1).wood 4 TLine.encO TLine.inn = X' at hl1
  obtain ⟨Z1,hZ1,hl2⟩ : ∃ Z1,Z1 = X' ++ y.inn ∧ Z.length = Z1.length := ⟨_,rfl,by rw [← hZ]; simp [hl1]⟩
  rw [show [(⟨false,c,2,[p.enc]⟩ : AObj)] ++ (X' ++ (y.inn ++ (⟨false,c4,2,[y.encO]⟩ :: g.wood 4 TLine.encO TLine.inn))) = ⟨false,c,2,[p.enc]⟩ :: (Z1 ++ ⟨false,c4,2,[y.encO]⟩ :: g.wood 4 TLine.encO TLine.inn) by rw [hZ1]; simp]
  simp [hl2]
  refine call_atH (A := ⟨false,c,2,[p.enc]⟩ :: X') (B := y.inn) (C := ⟨false,c4,2,[y.encO]⟩ :: g.wood 4 TLine.encO TLine.inn) (markProgram_con (s := y) (k := 1 + szL cLine x.list) by1 by2 ⟨by omega,by omega⟩ _) (Views.refl _ _) (by rw [hZ1]; simp) fun r B' c8 _ ⟨e8,e9⟩ => ?_
  subst e8; subst e9
  refine ⟨mkProgram_tags _ y,.int,fun o ho => TProgram.freeI _ o ho _,?_⟩
  have hl3 := mkProgram_len (1 + szL cLine x.list) y
  generalize hY' : (mkProgram (1 + (szL cLine x.list : Int)) y).inn = Y' at hl3
  obtain ⟨Z2,hZ2,hl4⟩ : ∃ Z2,Z2 = X' ++ Y' ∧ Z1.length = Z2.length := ⟨_,rfl,by rw [hZ1]; simp [hl3]⟩
  rw [show (⟨false,c,2,[p.enc]⟩ :: X') ++ (Y' ++ (⟨false,c4,2,[y.encO]⟩ :: g.wood 4 TLine.encO TLine.inn)) = ⟨false,c,2,[p.enc]⟩ :: (Z2 ++ ⟨false,c4,2,[y.encO]⟩ :: g.wood 4 TLine.encO TLine.inn) by rw [hZ2]; simp]
  have hk1 : ¬ ((1 : Int) + (szL cLine x.list : Int) + (cProgram y : Int) < 0) := by omega
  have hk2 : ¬ ((1 : Int) + (szL cLine g.list : Int) < 0) := by omega
  simp [hk1]
  refine call_fn (eqLineS_fn (s := g) (t := w) bg3 qgw) (.cons (view_line (fun o ho => by simp [ho])) (.cons (.refl _) .nil)) .bool fun _ _ => ?_
  simp [hk1]
  refine call_atH (A := ⟨false,c,2,[p.enc]⟩ :: (Z2 ++ [⟨false,c4,2,[y.encO]⟩])) (B := g.wood 4 TLine.encO TLine.inn) (C := []) (markLine_con (s := g) (k := 1) bg1 bg2 ⟨by omega,by omega⟩ _) (Views.refl _ _) (by simp) fun r B' c9 _ ⟨e8,e9⟩ => ?_
  subst e8; subst e9
  refine ⟨tags_wood (w := 4) (encO := TLine.encO) (inn := TLine.inn) (mk := mkLine) (cnt := cLine) mkLine_tags 1 g,.int,fun o ho => free_wood TLine.freeO TLine.freeI _ o ho _,?_⟩
  simp [hk1,hk2]
  refine call_fn (heldLine_fn (s := g) bg1 bg2 ⟨by omega,by omega⟩) (.cons (view_lmarks (fun o ho => by simp [ho])) (.cons (.refl _) .nil)) .int fun _ _ => ?_
  simp [hk1,hk2]
  refine ⟨fun d r => if d = 104 then LinQ s r else if d = 108 then PrgQ p r else PubV s at_ v p r,?_⟩
  simp
  refine callD_tree0 (toLineS_fn hz) (linQ_some s _) fun r ⟨b7,e10,q7⟩ _ => ?_
  subst e10
  simp
  refine callD_tree0 (TProgram.to_fn hpz0) (prgQ_some p _) fun r ⟨b8,e11,q8⟩ _ => ?_
  subst e11
  simp
  refine callD_tree0 (impl_pubV (hb _ q7).2.2 (hb _ q7).2.1 (hpz _ q8) q7 q8) (pubV_some s at_ v p _) fun r ⟨h0,e12,q9⟩ _ => ?_
  subst e12
  simp
  intro c10 _
  refine call_fn0 (eqLineS_fn (s := h0) (t := w) (hr _ q9).2.2 (by rw [q9,q3])) .bool fun _ _ => ?_
  simp
  refine call_fn (heldLine_fn (s := g) bg1 bg2 ⟨by omega,by omega⟩) (.cons (view_lmarks (fun o ho => by simp [ho])) (.cons (.refl _) .nil)) .int fun _ _ => ?_
  simp [hk2]
  exact fin_plain ⟨rfl,rfl⟩
open Go.RowKit
set_option linter.unusedVariables false
theorem iface_of_head {P : Program} {W : World} {name nm : String} {d : DataW Unit} {rest : List (String × DataW Unit)} {g : Nat} {ti : TypeId}
    (hg : P.globalNamed name = some g) (hty : (P.globals[g]?).map (·.type) = some ti) (hi : isIfcT P ti = true) (h : laidMet P ((name,.iface nm d) :: rest) W) :
    ∃ t fr u v,W.heap[g]? = some (.cells #[.iface u v] t fr) := by
  obtain ⟨ps,⟨g',t',cs,fuel,p,q,hg',ht',hvar,hd,_,_⟩,_⟩ := h
  obtain rfl := Option.some.inj (hg.symm.trans hg')
  obtain rfl := Option.some.inj (hty.symm.trans ht')
  obtain ⟨ms,hms⟩ : ∃ ms,P.underlying ti = some (.interface ms) := by
    unfold isIfcT at hi
    split at hi
    · rename_i ms h; exact ⟨ms,h⟩
    · cases hi
  obtain ⟨_,u,v,hcs,_,_⟩ := iface_of_trod hms hd
  unfold World.var? at hvar
  rw [hg] at hvar
  simp only [Option.bind_some] at hvar
  split at hvar
  · rename_i cs' t fr hc
    cases hvar
    refine ⟨t,fr,u,v,?_⟩
    rw [hc]
    have : cs = #[.iface u v] := by rw [← Array.toList_inj,hcs]
    rw [this]
  · cases hvar
end A
end Go.Proofs.YtgalkppgeoknaaaGreatDoor

namespace Go.Proofs.YtgalkppgeoknaaaGreatDoor.Closed
open Go.ChangeShapes Go.WideShapes Go.RowKit
theorem heard : Tryz.pinned.checked.prog.stopsHeard = true := by kernel_rfl
theorem enter : Tryz.pinned.checked.prog.mayEnter = true := by kernel_rfl
theorem make : Tryz.pinned.checked.prog.make = some Rows.fnExactPublishProgramRow.make := by kernel_rfl
theorem lifts : Tryz.pinned.checked.prog.liftsFinal = Rows.fnExactPublishProgramRow.lifted := by kernel_rfl
end Go.Proofs.YtgalkppgeoknaaaGreatDoor.Closed

namespace Go.Proofs.YtgalkppgeoknaaaGreatDoor.fnExactPublishProgram
open Go.ChangeShapes Go.WideShapes Go.ChangeAt Go.RowKit
open Go.Proofs.YtgalkppgeoknaaaGreatDoor.A
set_option linter.unusedVariables false
theorem own : ownKnob Tryz.prog.godebug = none := by kernel_rfl
def types : List TypeId := [22,49,3,47,26,23,77,9,73,179,4,74,75,181,24,82,79,187,185,183,254,252,80,189]
set_option maxRecDepth 100000 in
theorem lifted (os : Os) (started : os.Started) (H : Type) (enc : TypeId × Value → H) :
    ReturnsInHanded {} Tryz.checked os 3 .any (fun w args => (Rows.fnExactPublishProgramSpec.pre enc Tryz.prog Tryz.f3 Rows.fnExactPublishProgramRow.domain false w args ∧ laidMetH Tryz.prog Rows.fnExactPublishProgramRow.laid w) ∧ sizedMet enc Tryz.prog Tryz.f3 (OpenSpec.ofChange Rows.fnExactPublishProgramSpec) false w args) (Rows.fnExactPublishProgramSpec.post enc Tryz.prog Tryz.f3 false true false false) := by
  refine returnsInHanded_of_change_and (C := Tryz.checked) (X := fun w _ => laidMetH Tryz.prog Rows.fnExactPublishProgramRow.laid w) (fun _ _ _ hh h => h.of_heap hh) own started (by kernel_rfl) Tryz.func3
    (ChangeSpec.witness_shaped (enc := enc) (C := Tryz.checked) (os := os) (X := fun w _ => laidMetH Tryz.prog Rows.fnExactPublishProgramRow.laid w) false (World.laidAll Tryz.prog os Rows.fnExactPublishProgramRow.laid) #[.slice none 0 0,.int .i64 0,.int .i64 0,.agg #[.slice none 0 0,.slice none 0 0]] 8 (World.laidAll_os _ _ _)
      (World.shaped_of_ZipB (by kernel_rfl) (by kernel_rfl)) (by kernel_rfl) (by kernel_rfl) (by kernel_rfl)
      (by rw [MakeChecks.laidMetH_plain _ _ _ (by kernel_rfl)]; exact laidMet_laidAll _ (by kernel_rfl) (by kernel_rfl))) ?_
  intro W base args ds gs before hval0 hW hcnd _ hL _
  have htab : Lib.TabIs Tryz.prog W "internal/strconv.uint64pow10" .u64 Lib.pow10Tab := by
    have h1 := hL.filter fun x => x.1 == "internal/strconv.uint64pow10"
    rw [show (Rows.fnExactPublishProgramRow.laid.filter fun x => x.1 == "internal/strconv.uint64pow10") = [("internal/strconv.uint64pow10",Lib.tabData .u64 Lib.pow10Tab)] from by kernel_rfl,MakeChecks.laidMetH_plain _ _ _ (by kernel_rfl)] at h1
    exact Lib.tabIs_of_head (g := 0) (t := 280) (e := 269) (n := 20) (by kernel_rfl) (by kernel_rfl) (by kernel_rfl) (by kernel_rfl) (by kernel_rfl) (by kernel_rfl) h1
  have heS : ∃ t fr u v,W.heap[1]? = some (.cells #[.iface u v] t fr) := by
    have h1 := hL.filter fun x => x.1 == "strconv.ErrSyntax"
    rw [show (Rows.fnExactPublishProgramRow.laid.filter fun x => x.1 == "strconv.ErrSyntax") = [("strconv.ErrSyntax",Rows.laid_strconv_ErrSyntax)] from by kernel_rfl,MakeChecks.laidMetH_plain _ _ _ (by kernel_rfl)] at h1
    exact iface_of_head (ti := 258) (by kernel_rfl) (by kernel_rfl) (by kernel_rfl) h1
  have heR : ∃ t fr u v,W.heap[2]? = some (.cells #[.iface u v] t fr) := by
    have h1 := hL.filter fun x => x.1 == "strconv.ErrRange"
    rw [show (Rows.fnExactPublishProgramRow.laid.filter fun x => x.1 == "strconv.ErrRange") = [("strconv.ErrRange",Rows.laid_strconv_ErrRange)] from by kernel_rfl,MakeChecks.laidMetH_plain _ _ _ (by kernel_rfl)] at h1
    exact iface_of_head (ti := 258) (by kernel_rfl) (by kernel_rfl) (by kernel_rfl) h1
  have hg : ∀ b,b < NB → b < W.heap.size ∧ GL b W.heap[b]? := by
    obtain ⟨t4,fr4,u4,v4,h4⟩ := heS
    obtain ⟨t5,fr5,u5,v5,h5⟩ := heR
    have hs4 := (Array.getElem?_eq_some_iff.1 h4).1
    have hs5 := (Array.getElem?_eq_some_iff.1 h5).1
    unfold Lib.TabIs World.var? at htab
    rw [show Tryz.prog.globalNamed "internal/strconv.uint64pow10" = some 0 by kernel_rfl] at htab
    simp only [Option.bind_some] at htab
    split at htab
    · rename_i cs t1 fr1 hc1
      have hs1 := (Array.getElem?_eq_some_iff.1 hc1).1
      intro b hb
      have hb6 : b < 3 := hb
      refine ⟨by omega,?_,?_⟩
      · intro e; subst e; exact ⟨t1,fr1,by rw [hc1,Option.some.inj htab]⟩
      · rintro (e | e)
        · subst e; exact ⟨_,t4,fr4,.iface u4 v4,h4,rfl,.inr ⟨u4,v4,rfl⟩⟩
        · subst e; exact ⟨_,t5,fr5,.iface u5 v5,h5,rfl,.inr ⟨u5,v5,rfl⟩⟩
    · cases htab
  have hval : ∀ (j : Nat) t v,Tryz.f3.params[j]? = some t → args[j]? = some v → Value.okWide Tryz.prog W .any base t v := hval0
  refine law_post (rs := types) (bt := 4) (by kernel_rfl) (by kernel_rfl) (fun t ht => ?_) Tryz.underlying4 (by kernel_rfl) rfl (fun ds hds => ?_) hW hval (fun l has => ?_) hg
  · rw [Tryz.params3] at ht
    simp at ht
    first
      | (subst ht; exact ⟨by simp [types],by kernel_rfl,of_decide_eq_true (by kernel_rfl)⟩)
      | (rcases ht with rfl | rfl <;> exact ⟨by simp [types],by kernel_rfl,of_decide_eq_true (by kernel_rfl)⟩)
      | (rcases ht with rfl | rfl | rfl <;> exact ⟨by simp [types],by kernel_rfl,of_decide_eq_true (by kernel_rfl)⟩)
      | (rcases ht with rfl | rfl | rfl | rfl <;> exact ⟨by simp [types],by kernel_rfl,of_decide_eq_true (by kernel_rfl)⟩)
      | (rcases ht with rfl | rfl | rfl | rfl | rfl <;> exact ⟨by simp [types],by kernel_rfl,of_decide_eq_true (by kernel_rfl)⟩)
      | (rcases ht with rfl | rfl | rfl | rfl | rfl | rfl <;> exact ⟨by simp [types],by kernel_rfl,of_decide_eq_true (by kernel_rfl)⟩)
  · rw [← Array.length_toList,Tryz.params3] at hds
    match ds,hds with
    | [d0,d1,d2,d3],_ => exact ⟨rfl,rfl,rfl⟩
  · rw [Tryz.params3] at has
    cases has with
    | cons h0 has =>
      cases has with
      | cons h1 has =>
        cases has with
        | cons h2 has =>
          cases has with
          | cons h3 has =>
            cases has
            obtain ⟨n0,h0⟩ := h0
            rw [if_neg (by decide)] at h0
            obtain ⟨s0,rfl,k0⟩ := shLineS h0
            obtain ⟨n1,h1⟩ := h1
            rw [if_neg (by decide)] at h1
            obtain ⟨s1,rfl,k1⟩ := sh_int (k := .i64) (t := 3) (by kernel_rfl) h1
            obtain ⟨n2,h2⟩ := h2
            rw [if_neg (by decide)] at h2
            obtain ⟨s2,rfl,k2⟩ := sh_int (k := .i64) (t := 3) (by kernel_rfl) h2
            obtain ⟨n3,h3⟩ := h3
            rw [if_pos (by decide)] at h3
            obtain ⟨as3,rfl,h3⟩ := h3
            obtain ⟨s3,rfl,k3⟩ := TProgram.sh _ _ h3
            exact A.law_pub k0 k1 k2 k3 _
set_option maxHeartbeats 4000000 in
theorem facts : joinedFacts Tryz.pinned.checked.prog 3 Tryz.f3 Rows.fnExactPublishProgramSpec Rows.fnExactPublishProgramRow = true := by
  unfold joinedFacts
  rw [Closed.heard,Closed.enter,Closed.lifts,Closed.make]
  simp only [Bool.and_eq_true]
  iterate 6 (refine ⟨?_,by as_aux_lemma => kernel_rfl⟩)
  refine ⟨⟨?_,trivial⟩,trivial⟩
  iterate 23 (refine ⟨?_,by as_aux_lemma => kernel_rfl⟩)
  kernel_rfl
theorem named : Tryz.pinned.checked.prog.funcNamed Rows.fnExactPublishProgramRow.func = some 3 := by kernel_rfl
theorem inst : Tryz.f3.isInstance Tryz.pinned.checked.prog Rows.fnExactPublishProgramRow.origin Rows.fnExactPublishProgramRow.targs := of_decide_eq_true (by kernel_rfl)
theorem wrap : Tryz.f3.isWrapper Tryz.pinned.checked.prog Rows.fnExactPublishProgramRow.wrapper Rows.fnExactPublishProgramRow.mainSum := by
  unfold Func.isWrapper
  first
    | (rw [if_pos (by decide +kernel)]; kernel_rfl)
    | (rw [if_neg (by decide +kernel)]; exact ⟨rfl,rfl⟩)
theorem over : Rows.fnExactPublishProgramRow.holds Tryz.pinned (OpenSpec.ofChange Rows.fnExactPublishProgramSpec) :=
  OpenClaim.holds_of_wide 3 Tryz.f3 rfl rfl rfl rfl rfl rfl rfl ⟨rfl,rfl,rfl,rfl,rfl⟩ rfl rfl rfl rfl rfl named Tryz.func3 facts inst wrap
    (fun os started H enc _ => lifted os started H enc)
theorem row : Rows.FnExactPublishProgramSaid := over
theorem proved : Rows.FnExactPublishProgramCardSaid :=
  Claim7.holds_tied_plain_at .later [] [.data,.data,.data,.sentinel,.sentinel] true Rows.fnExactPublishProgramCard.stood.harness true row (fun _ h => by cases h) (by kernel_rfl) (fun _ h => by cases h) fnExactPublishProgram_row_tie rfl ⟨rfl,rfl⟩ (by kernel_rfl) rfl
    (fun f fn hf hfn => by
      obtain rfl : f = 3 := Option.some.inj (named.symm.trans hf) |>.symm
      obtain rfl : fn = Tryz.f3 := (Option.some.inj (Tryz.func3.symm.trans hfn)).symm
      exact ⟨by kernel_rfl,fun j t ht => by
        rw [Tryz.params3] at ht
        have hm : t ∈ [22,3,3,26] := by simpa using Array.mem_of_getElem? ht
        have hall : ([22,3,3,26].all fun u => !Tryz.prog.wantsStandIn u) = true := by kernel_rfl
        exact (show Tryz.prog.wantsStandIn t = false by simpa using List.all_eq_true.1 hall t hm)⟩)
    (by kernel_rfl)
#print axioms proved
end Go.Proofs.YtgalkppgeoknaaaGreatDoor.fnExactPublishProgram
