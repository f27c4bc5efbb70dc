import Derived.Handed
import Derived.LaidLaws
import Derived.ProofKit
import Derived.Test.YtmhmaokbicgmbaaGreatDoorRows
import Derived.OpenShut
import Derived.LaidMore
import Derived.Lay
import Derived.LaidSub
import Derived.SevenTiedAt
import Derived.Stop.Joined
import Derived.Lib.LaidTab
import Derived.Test.YtmhmaokbicgmbaaGreatDoorTie
import Derived.Test.YtmhmaokbicgmbaaGreatDoorCards
import Derived.Test.YtmhmaokbicgmbaaGreatDoorB08

/-
  RequestVars of the program: pairArray, RequestVars. No condition.
-/




namespace Go.Proofs.YtmhmaokbicgmbaaGreatDoor
namespace A
set_option linter.unusedVariables false
set_option linter.unusedSimpArgs false
set_option maxRecDepth 100000

theorem implArr_fn : Fnc Tryz.prog 61 [] (.agg (vrow 0 .nsl)) := by
  refine fn_of c61 (by simp [F61]) fun c => ?_
  unfold F61
  simp [putA]
  exact fin_plain ⟨rfl, rfl⟩
theorem implTxt_fn (l : List UInt8) : Fnc Tryz.prog 64 [.str l] (.agg (txV l).enc) := by
  refine fn_of c64 (by simp [F64]) fun c => ?_
  unfold F64
  simp [putA]
  exact fin_plain ⟨rfl, rfl⟩
theorem putKey_con {tv j : Nat} {a : PArr} {v : AV} {T : List AObj} (hT : ItemsAt a.1 j v T) (hl : a.1.length ≤ 1048576) {k : TKey} {x : TVal0} (hk : -1000000000 ≤ k.Num ∧ k.Num ≤ 1000000000) (hn : 0 ≤ a.2 ∧ a.2 ≤ 1000000001) (c : Nat) :
    Con Tryz.prog 62 [.ptr 0 tv 5 0 0, .agg k.enc, .agg x.enc] (⟨false, tv, 5, [vrow a.2 v]⟩ :: T) c (PutQ tv (putE a k x)) := by
  obtain ⟨ys, n⟩ := a
  rcases hT with ⟨h1, h2, h3⟩ | ⟨t, h2, h3⟩
  · have h1 : ys = [] := h1
    subst h1; subst h2; subst h3
    exact putKey_nil hk hn c
  · subst h2; subst h3
    exact con_ren (putKey_ref hl hk hn c) (.cons ren_vrow (.cons (.refl _ _) .nil))
theorem items_free {ys : List TEntry} {j : Nat} {v : AV} {T : List AObj} (h : ItemsAt ys j v T) : ∀ o, o ∈ T → ∀ U, AvRows U o := by
  rcases h with ⟨_, _, h⟩ | ⟨t, _, h⟩
  · subst h; intro o ho; cases ho
  · subst h
    intro o ho U
    rw [List.mem_singleton.1 ho]
    exact avRows_free fun row hr a ha => by
      obtain ⟨x, _, rfl⟩ := List.mem_map.1 hr
      exact (TEntry.flat x a ha).2
theorem free_key (k : TKey) : Free (.agg k.enc) := free_agg fun a ha => by
  simp [TKey.enc] at ha
  rcases ha with rfl | rfl | rfl
  · exact free_bool _
  · exact free_int _ _
  · exact free_str _
theorem free_val0 (x : TVal0) : Free (.agg x.enc) := free_agg fun a ha => by
  simp [TVal0.enc] at ha
  rcases ha with rfl | rfl | rfl | rfl | rfl
  · exact free_int _ _
  · exact free_int _ _
  · exact free_str _
  · exact free_int _ _
  · exact free_nsl
theorem row_free {tv j : Nat} {n : Int} {ys : List TEntry} {v : AV} {T : List AObj} (h : ItemsAt ys j v T) : ∀ U, AvRows U ⟨false, tv, 5, [vrow n v]⟩ := fun U => avRows_free fun row hr a ha => by
  rw [List.mem_singleton.1 hr] at ha
  simp [vrow] at ha
  rcases ha with rfl | rfl | rfl | rfl | rfl
  · exact free_int _ _
  · exact free_int _ _
  · exact free_str _
  · exact free_int _ _
  · rcases h with ⟨_, h, _⟩ | ⟨t, h, _⟩
    · rw [h]; exact free_nsl
    · rw [h]; exact fun T => .ref
def TValue.encO (s : TValue) : List AV := [.int .i64 s.Kind, .int .i64 s.Num, .str s.Str, .int .i64 s.Next, s.Items.ref 8]
def TValue.inn (s : TValue) : List AObj := s.Items.wood 8 TEntry.enc noInn
@[simp] theorem TValue.lenO (s : TValue) : s.encO.length = 5 := (rfl)
theorem TValue.freeO : ∀ (x : TValue) a, a ∈ x.encO → Free a := fun x a ha => by
  simp [TValue.encO] at ha
  rcases ha with rfl | rfl | rfl | rfl | rfl
  · exact free_int _ _
  · exact free_int _ _
  · exact free_str _
  · exact free_int _ _
  · exact free_ref _ _
theorem TValue.freeI : ∀ (x : TValue) o, o ∈ x.inn → ∀ T, AvRows T o := fun x o ho => flat_free TEntry.flat _ _ o ho
/-- An array of a list of pairs. -/
def arrV (l : List TPair) : TValue := ⟨4, 0, [], (arrP l).2, .mk 0 (arrP l).1⟩
def SmP (l : List TPair) : Prop := l.length ≤ 1048576 ∧ ∀ x, x ∈ l → x.Name.length ≤ 1048576
/-- A call that is handed some of the objects; what stands behind them is let go. -/
theorem call_tailD {P : Program} {K : AV → List AObj → Nat → Prop} {f : Nat} {l l' : List AV} {a : AObj} {B C : List AObj} {c : Nat} {Q : AV → List AObj → Nat → Prop} (hf : Con P f l' B c Q) (hv : Views [] l l')
    (k : ∀ r B' c', c ≤ c' → Q r B' c' → Av [] r ∧ (∀ o, o ∈ B' → AvRows [] o) ∧ K r (a :: B') c') : CallW P f l (a :: (B ++ C)) c K := by
  intro hn hlt
  obtain ⟨h1, h2⟩ := hv.spec
  have e : tags (a :: (B ++ C)) = a.tag :: (tags B ++ tags C) := by simp [tags]
  have hna : a.tag ∉ tags B := fun hm => (List.nodup_cons.1 (e ▸ hn)).1 (List.mem_append_left _ hm)
  refine ⟨B, [], l', Q, (List.sublist_append_left B C).cons _, by simp, by simp [tags], h1, h2, hf, fun r B' c' hc hq ho hd => ?_⟩
  obtain ⟨k1, k2, k3⟩ := k r B' c' hc hq
  refine ⟨a :: B', r, fun o h => ?_, List.nodup_cons.2 ⟨fun hm => hna (ho _ (hlt _ (by simp [tags])) hm), hd⟩, .refl r, k1, fun o _ h => k2 o h, k3⟩
  rcases List.mem_cons.1 h with rfl | h
  · exact .inr ⟨by simp, hna⟩
  · exact .inl h
theorem put_avail {tv : Nat} {a : PArr} {r : AV} {O : List AObj} {c : Nat} (h : PutQ tv a r O c) : Av [] r ∧ ∀ o, o ∈ O → AvRows [] o := by
  obtain ⟨h1, v', T', h2, h3⟩ := h
  subst h1; subst h3
  refine ⟨.tup fun j a ha => by simp at ha, fun o ho => ?_⟩
  rcases List.mem_cons.1 ho with rfl | ho
  · exact row_free h2 _
  · exact items_free h2 o ho _
theorem pairArray_con {s : SL TPair} (hs : SmP s.list) (c : Nat) : Con Tryz.prog 31 [s.av 2 TPair.enc] [] c fun r O _ => ∃ b : TValue, r = .agg b.encO ∧ O = b.inn ∧ b.con = (arrV s.list).con := by
  obtain ⟨hl, hsn⟩ := hs
  refine con_of c31 (by simp [F31]) ?_
  unfold F31
  simp
  refine call_fn0 implArr_fn (free_agg (by simp [vrow]; exact ⟨free_int _ _, free_int _ _, free_str _, free_int _ _, free_nsl⟩) _) fun tv _ => ?_
  simp
  refine loop_drop s.list.length (fun i e H c' => e 2 = .ptr 0 c 5 0 0 ∧ e 3 = .ptr 1 tv 5 0 0 ∧ e 7 = s.av 2 TPair.enc ∧ e 8 = .int .i64 s.list.length ∧ e 9 = .int .i64 i ∧ ∃ (j : Nat) (v : AV) (T : List AObj), ItemsAt (arrP (s.list.take i)).1 j v T ∧
    H = ⟨false, c, 5, [[.int .i64 0, .int .i64 0, .str [], .int .i64 0, .nsl]]⟩ :: ⟨false, tv, 5, [vrow (arrP (s.list.take i)).2 v]⟩ :: T) ⟨rfl, rfl, rfl, rfl, rfl, 0, .nsl, [], .inl ⟨rfl, rfl, rfl⟩, rfl⟩ ?_
  intro i e H c' hi ⟨e2, e3, e7, e8, e9, j, v, T, hT, hH⟩ N hN
  subst hH
  obtain ⟨b0, b1, b2⟩ := arrP_bnd (s.list.take i)
  have hli : (arrP (s.list.take i)).1.length ≤ 1048576 := by
    have : (s.list.take i).length ≤ s.list.length := by simp; omega
    omega
  by_cases h : i < s.list.length
  · have hx : s.list[i]? = some s.list[i] := List.getElem?_eq_getElem h
    have hst := arrP_step s.list h
    have hxn := hsn _ (List.getElem_mem h)
    generalize s.list[i] = x at hx hst hxn
    have hkb := tKey_bnd x.Name
    have next : ∀ {r : AV} {B' : List AObj} {c2 : Nat}, PutQ tv (putE (arrP (s.list.take i)) (tKey x.Name) (txV x.Value)) r B' c2 → ∃ (j : Nat) (v : AV) (T : List AObj), ItemsAt (arrP (s.list.take (i + 1))).1 j v T ∧ B' = ⟨false, tv, 5, [vrow (arrP (s.list.take (i + 1))).2 v]⟩ :: T := fun ⟨_, v', T', h1, h2⟩ => by
      rw [hst]; exact ⟨1, v', T', h1, h2⟩
    have hcon := fun c => putKey_con (tv := tv) hT hli (k := tKey x.Name) (x := txV x.Value) hkb ⟨b0, b1⟩ c
    rcases hT with ⟨h1, h2, h3⟩ | ⟨t, h2, h3⟩
    · subst h2; subst h3
      simp [e2, e3, e7, e8, e9, h, getW_of hx]
      refine call_fn0 (implKey_fn hxn) (free_key _ _) fun _ _ => ?_
      simp [e2, e3, e7, e8, e9, h]
      refine call_fn0 (implTxt_fn x.Value) (free_val0 _ _) fun _ _ => ?_
      simp [e2, e3, e7, e8, e9, h]
      refine call_tailD (B := [_]) (C := [_]) (hcon _) (.cons .namep (Views.refl _ _)) fun r B' c2 _ hq => ?_
      obtain ⟨q1, q2⟩ := put_avail hq
      obtain ⟨j', v', T', h4, h5⟩ := next hq
      subst h5
      refine ⟨q1, q2, ?_⟩
      simp [e2, e3, e7, e8, e9, h]
      exact hN _ _ _ _ h (List.Sublist.refl _) ⟨by simp [upd, e2], by simp [upd, e3], by simp [upd, e7], by simp [upd, e8], by simp [upd]; exact step64 (by unfold mx; omega) h, j', v', T', h4, rfl⟩
    · subst h2; subst h3
      simp [e2, e3, e7, e8, e9, h, getW_of hx]
      refine call_fn0 (implKey_fn hxn) (free_key _ _) fun _ _ => ?_
      simp [e2, e3, e7, e8, e9, h]
      refine call_fn0 (implTxt_fn x.Value) (free_val0 _ _) fun _ _ => ?_
      simp [e2, e3, e7, e8, e9, h]
      refine call_tailD (B := [_, _]) (C := [_]) (hcon _) (.cons .namep (Views.refl _ _)) fun r B' c2 _ hq => ?_
      obtain ⟨q1, q2⟩ := put_avail hq
      obtain ⟨j', v', T', h4, h5⟩ := next hq
      subst h5
      refine ⟨q1, q2, ?_⟩
      simp [e2, e3, e7, e8, e9, h]
      exact hN _ _ _ _ h (List.Sublist.refl _) ⟨by simp [upd, e2], by simp [upd, e3], by simp [upd, e7], by simp [upd, e8], by simp [upd]; exact step64 (by unfold mx; omega) h, j', v', T', h4, rfl⟩
  · have hie : i = s.list.length := by omega
    subst hie
    rw [List.take_length] at hT b0 b1 b2 hli ⊢
    generalize ha : arrP s.list = a at hT
    obtain ⟨ys, n⟩ := a
    rcases hT with ⟨h1, h2, h3⟩ | ⟨t, h2, h3⟩
    · have h1 : ys = [] := h1
      subst h1; subst h2; subst h3
      simp [e2, e3, e7, e8, e9]
      exact fin_sub (List.nil_sublist _) (.refl _) ⟨⟨4, 0, [], n, .nil⟩, rfl, rfl, by simp [TValue.con, arrV, ha, SL.pcon]⟩
    · subst h2; subst h3
      simp [e2, e3, e7, e8, e9]
      refine fin_sub (Hk := [⟨false, t, 8, ys.map TEntry.enc⟩]) (v' := .agg (TValue.encO ⟨4, 0, [], n, .mk t ys⟩)) (.cons _ (.cons _ (.cons_cons _ .slnil))) ?_ ⟨⟨4, 0, [], n, .mk t ys⟩, rfl, (flat_wood ..).symm, by simp [TValue.con, arrV, ha, SL.pcon]⟩
      exact .agg rfl (fun j a ha => by
        match j, ha with
        | 0, ha => simp [TValue.encO] at ha; subst ha; rfl
        | 1, ha => simp [TValue.encO] at ha; subst ha; rfl
        | 2, ha => simp [TValue.encO] at ha; subst ha; rfl
        | 3, ha => simp [TValue.encO] at ha; subst ha; rfl
        | 4, ha => simp [TValue.encO] at ha; subst ha; rfl
        | j + 5, ha => simp [TValue.encO] at ha) fun j a a' h1 h2 => by
        match j, h1, h2 with
        | 0, h1, h2 => simp [vrow] at h1; simp [TValue.encO] at h2; subst h1; subst h2; exact .refl _
        | 1, h1, h2 => simp [vrow] at h1; simp [TValue.encO] at h2; subst h1; subst h2; exact .refl _
        | 2, h1, h2 => simp [vrow] at h1; simp [TValue.encO] at h2; subst h1; subst h2; exact .refl _
        | 3, h1, h2 => simp [vrow] at h1; simp [TValue.encO] at h2; subst h1; subst h2; exact .refl _
        | 4, h1, h2 => simp [vrow] at h1; simp [TValue.encO] at h2; subst h1; subst h2; exact .name
        | j + 5, h1, h2 => simp [vrow] at h1
def nGet : List UInt8 := [103, 101, 116]
def nCookie : List UInt8 := [99, 111, 111, 107, 105, 101]
/-- The bindings of a request. -/
def varsP (x : TRequest) : List TBinding := if isReq x then [⟨nGet, arrV x.Query.list⟩, ⟨nCookie, arrV x.Cookies.list⟩] else []
@[simp] theorem putB (n : List UInt8) (b : TValue) : putA (putA [.str [], .int .i64 0, .int .i64 0, .str [], .int .i64 0, .nsl] 0 [.str n]) 1 b.encO = (TBinding.mk n b).encO := (rfl)
@[simp] theorem putBl (n : List UInt8) (b : TValue) : (putA (putA [.str [], .int .i64 0, .int .i64 0, .str [], .int .i64 0, .nsl] 0 [.str n]) 1 b.encO).length = 6 := (rfl)
@[simp] theorem putBk (n : List UInt8) : (putA [.str [], .int .i64 0, .int .i64 0, .str [], .int .i64 0, .nsl] 0 [.str n]).length = 6 := (rfl)
def VarsRaw (x : TRequest) (r : AV) (O : List AObj) : Prop :=
  (isReq x = false ∧ r = .nsl ∧ O = []) ∨ (isReq x = true ∧ ∃ (b1 b2 : TValue) (i t : Nat), r = .ref i t 6 2 ∧ O = b1.inn ++ (b2.inn ++ [⟨false, t, 6, [(TBinding.mk nGet b1).encO, (TBinding.mk nCookie b2).encO]⟩]) ∧ b1.con = (arrV x.Query.list).con ∧ b2.con = (arrV x.Cookies.list).con)
theorem impl_varsRaw {x : TRequest} (hx : x.ok) (h1 : SmP x.Query.list) (h2 : SmP x.Cookies.list) (c : Nat) : Con Tryz.prog 8 [.agg x.enc] [] c fun r O _ => VarsRaw x r O := by
  refine con_of c8 (by simp [F8]) ?_
  unfold F8
  simp
  refine call_fn0 (impl_isReq hx) .bool fun _ _ => ?_
  cases hr : isReq x
  · simp
    exact fin_sub (List.nil_sublist _) (.refl _) (.inl ⟨hr, rfl, rfl⟩)
  have hm2 : 2 ≤ mx := by decide
  simp
  refine ⟨⟨?_, ?_⟩, ?_⟩
  all_goals
    refine call_new (pairArray_con h1 _) (Views.refl _ _) fun r1 O1 c1 hc1 ⟨b1, e1, hO1, q1⟩ _ _ => ?_
    subst e1; subst hO1
    refine ⟨_, .refl _, free_agg (TValue.freeO b1) _, fun o ho => TValue.freeI b1 o ho _, ?_⟩
    simp [hm2]
    refine call_new (pairArray_con h2 _) (Views.refl _ _) fun r2 O2 c2 hc2 ⟨b2, e2, hO2, q2⟩ _ _ => ?_
    subst e2; subst hO2
    refine ⟨_, .refl _, free_agg (TValue.freeO b2) _, fun o ho => TValue.freeI b2 o ho _, ?_⟩
    simp [hm2]
    exact fin_sub (List.sublist_cons_self _ _) (.refl _) (.inr ⟨hr, b1, b2, _, _, rfl, rfl, q1, q2⟩)
def VarsQ (x : TRequest) (r : AV) (O : List AObj) : Prop := ∃ b : SL TBinding, r = b.ref 6 ∧ O = b.wood 6 TBinding.encO TBinding.inn ∧ b.list.map TBinding.con = (varsP x).map TBinding.con
theorem impl_vars {x : TRequest} (hx : x.ok) (h1 : SmP x.Query.list) (h2 : SmP x.Cookies.list) (c : Nat) : Con Tryz.prog 8 [.agg x.enc] [] c fun r O _ => VarsQ x r O :=
  Con.fin (con_perm (Q' := fun r O _ => ∃ r', View [] r r' ∧ VarsQ x r' O) (impl_varsRaw hx h1 h2 c) fun r O c' h => by
    rcases h with ⟨hr, e1, e2⟩ | ⟨hr, b1, b2, i, t, e1, e2, q1, q2⟩
    · exact ⟨[], [], List.nil_sublist _, .refl _, _, .refl _, .nil, e1, rfl, by simp [varsP, hr]⟩
    · refine ⟨O, (SL.mk t [⟨nGet, b1⟩, ⟨nCookie, b2⟩]).wood 6 TBinding.encO TBinding.inn, .refl _, ?_, .ref 0 t 6 2, by rw [e1]; exact .name, .mk t [⟨nGet, b1⟩, ⟨nCookie, b2⟩], rfl, rfl, ?_⟩
      · rw [e2]
        refine perm_cnt fun p => ?_
        show List.countP p (⟨false, t, 6, [(TBinding.mk nGet b1).encO, (TBinding.mk nCookie b2).encO]⟩ :: (b1.inn ++ (b2.inn ++ []))) = _
        simp only [List.countP_append, List.countP_cons, List.countP_nil, List.append_nil]
        omega
      · simp [varsP, hr, TBinding.con, q1, q2]) fun r O c' _ ⟨r', hv, hq⟩ _ _ => fin_sub (.refl _) hv hq
theorem vars_tr {f : Nat} {x : TRequest} {args : List AV} (h : ∀ c, Con Tryz.prog f args [] c fun r O _ => VarsQ x r O) :
    Tr Tryz.prog f args fun _ r => ∃ b : SL TBinding, r = b.av 6 TBinding.enc ∧ b.list.map TBinding.con = (varsP x).map TBinding.con :=
  tr_of h fun c r O c' _ ⟨b, h1, h2, h3⟩ ht => ⟨b.av 6 TBinding.enc, by rw [h1]; exact view_OBinding fun o ho => h2 ▸ ho, ⟨b, rfl, h3⟩, by
    subst h2
    cases b with
    | nil => exact from_nsl c
    | mk t l =>
      refine from_slc (ht t (by simp [SL.wood, wood, tags])) fun row hr a ha => ?_
      obtain ⟨y, hy, rfl⟩ := List.mem_map.1 hr
      simp [TBinding.enc] at ha
      rcases ha with rfl | rfl | rfl | rfl | rfl | rfl
      · simp
      · simp
      · simp
      · simp
      · simp
      · refine flat_from TEntry.flat fun u hu => ht u ?_
        obtain ⟨o, ho, rfl⟩ := of_mem_tags hu
        exact mem_tags (by simp only [SL.wood, wood]; exact List.mem_cons_of_mem _ (List.mem_flatMap.2 ⟨y, hy, ho⟩))⟩
end A
end Go.Proofs.YtmhmaokbicgmbaaGreatDoor

/-
  RequestVars of the reference. No condition.
-/

namespace Go.Proofs.YtmhmaokbicgmbaaGreatDoor
namespace A
set_option linter.unusedVariables false
set_option linter.unusedSimpArgs false
set_option maxRecDepth 100000

theorem specArr_fn : Fnc Tryz.prog 55 [] (.agg (vrow 0 .nsl)) := by
  refine fn_of c55 (by simp [F55]) fun c => ?_
  unfold F55
  simp [putA]
  exact fin_plain ⟨rfl, rfl⟩
theorem specTxt_fn (l : List UInt8) : Fnc Tryz.prog 57 [.str l] (.agg (txV l).enc) := by
  refine fn_of c57 (by simp [F57]) fun c => ?_
  unfold F57
  simp [putA]
  exact fin_plain ⟨rfl, rfl⟩
theorem specMax_fn (a b : Int) : Fnc Tryz.prog 88 [.int .i64 a, .int .i64 b] (.int .i64 (if a < b then b else a)) := by
  refine fn_of c88 (by simp [F88]) fun c => ?_
  unfold F88
  by_cases h : a < b
  · simp [h]
    exact fin_plain ⟨rfl, rfl⟩
  · simp [h]
    exact fin_plain ⟨rfl, rfl⟩
theorem l5Find_fn {n : Int} {s : SL TEntry} {k : TKey} (hn : s.list.length ≤ mx) : Fnc Tryz.prog 86 [.agg (vrow n (s.av 8 TEntry.enc)), .agg k.enc] (.int .i64 (fdI s.list k)) := by
  refine fn_of c86 (by simp [F86]) fun c => ?_
  unfold F86
  simp
  refine loop_drop s.list.length (fun i e H c' => e 2 = .ptr 0 c 5 0 0 ∧ e 3 = .ptr 1 (c + 1) 3 0 0 ∧ e 5 = .int .i64 i ∧ fdN k (s.list.take i) = i ∧ H = [⟨false, c, 5, [vrow n (s.av 8 TEntry.enc)]⟩, ⟨false, c + 1, 3, [k.enc]⟩]) ⟨rfl, rfl, rfl, rfl, rfl⟩ ?_
  intro i e H c' hi ⟨e2, e3, e5, hf, hH⟩ N hN
  subst hH
  by_cases h : i < s.list.length
  · have hx : s.list[i]? = some s.list[i] := List.getElem?_eq_getElem h
    generalize s.list[i] = x at hx
    simp [e2, e3, e5, h, getW_of hx, -beqW'_agg]
    by_cases he : x.Key = k
    · simp [e2, e3, e5, he, -beqW'_agg]
      exact fin_plain ⟨by rw [fd_hitI hx hf he], rfl⟩
    · simp [e2, e3, e5, he, -beqW'_agg]
      exact hN _ _ _ _ h (List.Sublist.refl _) ⟨by simp [upd, e2], by simp [upd, e3], by simp [upd]; exact step64 hn h, fdN_step hx hf he, rfl⟩
  · have hie : i = s.list.length := by omega
    subst hie
    simp [e2, e3, e5]
    exact fin_plain ⟨by rw [fd_endI hf], rfl⟩
def SetQ (a : PArr) (r : AV) (O : List AObj) : Prop := ∃ t, r = .agg (vrow a.2 (.ref 0 t 8 a.1.length)) ∧ O = [⟨false, t, 8, a.1.map TEntry.enc⟩]
theorem view_vrow {n : Int} {i j t m : Nat} {S : List AObj} : View S (.agg (vrow n (.ref i t 8 m))) (.agg (vrow n (.ref j t 8 m))) :=
  .agg rfl (fun q a ha => by
    match q, ha with
    | 0, ha => simp [vrow] at ha; subst ha; rfl
    | 1, ha => simp [vrow] at ha; subst ha; rfl
    | 2, ha => simp [vrow] at ha; subst ha; rfl
    | 3, ha => simp [vrow] at ha; subst ha; rfl
    | 4, ha => simp [vrow] at ha; subst ha; rfl
    | q + 5, ha => simp [vrow] at ha) fun q a a' h1 h2 => by
    match q, h1, h2 with
    | 0, h1, h2 => simp [vrow] at h1 h2; subst h1; subst h2; exact .refl _
    | 1, h1, h2 => simp [vrow] at h1 h2; subst h1; subst h2; exact .refl _
    | 2, h1, h2 => simp [vrow] at h1 h2; subst h1; subst h2; exact .refl _
    | 3, h1, h2 => simp [vrow] at h1 h2; subst h1; subst h2; exact .refl _
    | 4, h1, h2 => simp [vrow] at h1 h2; subst h1; subst h2; exact .name
    | q + 5, h1, h2 => simp [vrow] at h1
set_option maxHeartbeats 1000000 in
theorem l6Set_con {n : Int} {s : SL TEntry} {k : TKey} {x : TVal0} (hl : s.list.length ≤ 1048576) (hk : -1000000000 ≤ k.Num ∧ k.Num ≤ 1000000000) (hn : 0 ≤ n ∧ n ≤ 1000000001) (c : Nat) :
    Con Tryz.prog 56 [.agg (vrow n (s.av 8 TEntry.enc)), .agg k.enc, .agg x.enc] [] c fun r O _ => SetQ (putE (s.list, n) k x) r O := by
  refine con_of c56 (by simp [F56]) ?_
  unfold F56
  have hm1 : s.list.length * 96 ≤ 140737488355328 := by omega
  have hm2 : s.list.length ≤ mx := by unfold mx; omega
  have hm3 : (s.list.length + 1) * 96 ≤ 140737488355328 := by omega
  have hm4 : s.list.length + 1 ≤ mx := by unfold mx; omega
  have hm5 : 1 ≤ mx := by decide
  have hm6 : (s.list.length : Int) < (s.list.length : Int) + 1 := by omega
  have hw : IntKind.i64.wrap (k.Num + 1) = k.Num + 1 := wrap64 (by omega) (by omega)
  simp [hm1, hm2]
  refine call_fn0 (l5Find_fn (n := n) (s := s) (k := k) hm2) .int fun _ _ => ?_
  have hle := fdN_le k s.list
  have fin : ∀ {ys : List TEntry} {m i t c len : Nat} {n' : Int} {H : List AObj}, ys.length = len → putE (s.list, n) k x = (ys, n') → [(⟨false, t, 8, ys.map TEntry.enc⟩ : AObj)].Sublist H → finW (fun r O _ => SetQ (putE (s.list, n) k x) r O) (.agg (vrow n' (.ref i t 8 len))) H c := fun {ys m i t c len n' H} h1 h2 h3 => by
    subst h1
    rw [h2]
    exact fin_sub h3 view_vrow ⟨t, rfl, rfl⟩
  by_cases hf : fdN k s.list < s.list.length
  · have hp : putE (s.list, n) k x = (s.list.set (fdN k s.list) ⟨k, x⟩, n) := by simp [putE, hf]
    have hfi : fdI s.list k = (fdN k s.list : Int) := by unfold fdI; rw [if_pos hf]
    obtain ⟨e, he, hek⟩ := fdN_key hf
    simp [hfi, hf, getW_of he]
    rw [set_enc he hek]
    exact fin (m := 0) (by simp) hp (.cons _ (.cons _ (.cons _ (.cons _ (.cons _ (.cons_cons _ (List.nil_sublist _)))))))
  · have hp : putE (s.list, n) k x = (s.list ++ [⟨k, x⟩], nextP n k) := by simp [putE, hf]
    have hfi : fdI s.list k = -1 := by unfold fdI; rw [if_neg hf]
    simp [hfi, hm3, hm4, hm5, hm6, hw]
    refine ⟨fun ht => ?_, fun ht => ?_⟩
    · refine call_fn0 (specMax_fn _ _) .int fun _ _ => ?_
      simp
      rw [nextP_F ht] at hp
      exact fin (m := 0) (by simp) hp (.cons _ (.cons _ (.cons _ (.cons _ (.cons _ (by rw [List.map_append]; exact .cons_cons _ (List.nil_sublist _)))))))
    · rw [nextP_T ht] at hp
      exact fin (m := 0) (by simp) hp (.cons _ (.cons _ (.cons _ (.cons _ (.cons _ (by rw [List.map_append]; exact .cons_cons _ (List.nil_sublist _)))))))
theorem l6Set_tr {n : Int} {s : SL TEntry} {k : TKey} {x : TVal0} (hl : s.list.length ≤ 1048576) (hk : -1000000000 ≤ k.Num ∧ k.Num ≤ 1000000000) (hn : 0 ≤ n ∧ n ≤ 1000000001) :
    Tr Tryz.prog 56 [.agg (vrow n (s.av 8 TEntry.enc)), .agg k.enc, .agg x.enc] fun _ r => ∃ b : SL TEntry, r = .agg (vrow (putE (s.list, n) k x).2 (b.av 8 TEntry.enc)) ∧ b.list = (putE (s.list, n) k x).1 :=
  tr_of (l6Set_con hl hk hn) fun c r O c' _ ⟨t, h1, h2⟩ ht => ⟨.agg (vrow (putE (s.list, n) k x).2 ((SL.mk t (putE (s.list, n) k x).1).av 8 TEntry.enc)), by rw [h1]; exact vrow_view (by rw [h2]; simp), ⟨_, rfl, rfl⟩, from_agg fun a ha => by
    simp [vrow] at ha
    rcases ha with rfl | rfl | rfl | rfl | rfl
    · simp
    · simp
    · simp
    · simp
    · exact flat_from TEntry.flat fun u hu => ht u (by rw [h2]; rw [flat_wood] at hu; exact hu)⟩
theorem from_vrow {c : Nat} {n : Int} {v : AV} (h : From c (.agg (vrow n v))) : From c v := from_agg_mem h v (by simp [vrow])
theorem from_vrow' {c : Nat} {n : Int} {v : AV} (h : From c v) : From c (.agg (vrow n v)) := from_agg fun a ha => by
  simp [vrow] at ha
  rcases ha with rfl | rfl | rfl | rfl | rfl
  · simp
  · simp
  · simp
  · simp
  · exact h
theorem l36Array_tr {s : SL TPair} (hs : SmP s.list) : Tr Tryz.prog 28 [s.av 2 TPair.enc] fun _ r => ∃ b : TValue, r = .agg b.enc ∧ b.con = (arrV s.list).con := by
  obtain ⟨hl, hsn⟩ := hs
  intro c
  refine con_of c28 (by simp [F28]) ?_
  unfold F28
  simp
  refine call_fn0 specArr_fn (free_agg (by simp [vrow]; exact ⟨free_int _ _, free_int _ _, free_str _, free_int _ _, free_nsl⟩) _) fun tv htv => ?_
  simp
  refine loop_drop s.list.length (fun i e H c' => c ≤ c' ∧ e 0 = s.av 2 TPair.enc ∧ e 2 = .ptr 0 c 5 0 0 ∧ e 3 = .ptr 1 tv 5 0 0 ∧ e 4 = .int .i64 i ∧ ∃ b : SL TEntry, b.list = (arrP (s.list.take i)).1 ∧ From c (b.av 8 TEntry.enc) ∧
    H = [⟨false, c, 5, [[.int .i64 0, .int .i64 0, .str [], .int .i64 0, .nsl]]⟩, ⟨false, tv, 5, [vrow (arrP (s.list.take i)).2 (b.av 8 TEntry.enc)]⟩]) ⟨by omega, rfl, rfl, rfl, rfl, .nil, rfl, from_nsl c, rfl⟩ ?_
  intro i e H c' hi ⟨hc', e0, e2, e3, e4, b, hb, hfr, hH⟩ N hN
  subst hH
  obtain ⟨b0, b1, b2⟩ := arrP_bnd (s.list.take i)
  have hli : b.list.length ≤ 1048576 := by
    have : (s.list.take i).length ≤ s.list.length := by simp; omega
    rw [hb]; omega
  by_cases h : i < s.list.length
  · have hx : s.list[i]? = some s.list[i] := List.getElem?_eq_getElem h
    have hst := arrP_step s.list h
    have hxn := hsn _ (List.getElem_mem h)
    generalize s.list[i] = x at hx hst hxn
    have hkb := tKey_bnd x.Name
    generalize ha : arrP (s.list.take i) = a at *
    obtain ⟨ys, n⟩ := a
    have hb : b.list = ys := hb
    simp [e0, e2, e3, e4, h, getW_of hx]
    refine call_fn0 (specKey_fn (by unfold mx; omega)) (free_key _ _) fun _ h1 => ?_
    simp [e0, e2, e3, e4, h, getW_of hx]
    refine call_fn0 (specTxt_fn x.Value) (free_val0 _ _) fun _ h2 => ?_
    simp [e0, e2, e3, e4, h]
    refine call_tree0 (l6Set_tr (s := b) hli hkb ⟨b0, b1⟩) fun r c3 h3 ⟨b', e1, q1⟩ hf => ?_
    subst e1
    rw [hb] at q1 hf ⊢
    simp [e0, e2, e3, e4, h]
    exact hN _ _ _ _ h (List.Sublist.refl _) ⟨by omega, by simp [upd, e0], by simp [upd, e2], by simp [upd, e3], by simp [upd]; exact step64 (by unfold mx; omega) h, b', by rw [hst]; exact q1, (from_vrow hf).mono (by omega), by rw [hst]⟩
  · have hie : i = s.list.length := by omega
    subst hie
    rw [List.take_length] at hb
    rw [List.take_length]
    simp [e0, e2, e3, e4]
    exact fin_plain ⟨rfl, ⟨⟨4, 0, [], (arrP s.list).2, b⟩, rfl, by simp [TValue.con, arrV, SL.pcon, hb]⟩, from_vrow' hfr⟩
@[simp] theorem putBt (n : List UInt8) (b : TValue) : putA (putA [.str [], .int .i64 0, .int .i64 0, .str [], .int .i64 0, .nsl] 0 [.str n]) 1 b.enc = (TBinding.mk n b).enc := (rfl)
@[simp] theorem putBtl (n : List UInt8) (b : TValue) : (putA (putA [.str [], .int .i64 0, .int .i64 0, .str [], .int .i64 0, .nsl] 0 [.str n]) 1 b.enc).length = 6 := (rfl)
theorem from_val {c : Nat} {b : TValue} (h : From c (.agg b.enc)) : From c (b.Items.av 8 TEntry.enc) := from_agg_mem h _ (by simp [TValue.enc])
theorem spec_vars {x : TRequest} (hx : x.ok) (h1 : SmP x.Query.list) (h2 : SmP x.Cookies.list) : Tr Tryz.prog 6 [.agg x.enc] fun _ r => ∃ b : SL TBinding, r = b.av 6 TBinding.enc ∧ b.list.map TBinding.con = (varsP x).map TBinding.con := by
  intro c
  refine con_of c6 (by simp [F6]) ?_
  unfold F6
  simp
  refine call_fn0 (spec_isReq hx) .bool fun _ hc0 => ?_
  have hm2 : 2 ≤ mx := by decide
  cases hr : isReq x
  · simp
    exact fin_slc (rows := []) (i := 1) rfl rfl (by simp) ⟨rfl, ⟨.mk _ [], rfl, by simp [varsP, hr]⟩, from_slc (by omega) (by simp)⟩
  simp
  refine ⟨⟨?_, ?_⟩, ?_⟩
  all_goals
    refine call_tree0 (l36Array_tr h1) fun r1 c1 hc1 ⟨b1, e1, q1⟩ f1 => ?_
    subst e1
    simp [hm2]
    refine call_tree0 (l36Array_tr h2) fun r2 c2 hc2 ⟨b2, e2, q2⟩ f2 => ?_
    subst e2
    simp [hm2]
    refine fin_slc (rows := [(TBinding.mk nGet b1).enc, (TBinding.mk nCookie b2).enc]) (i := 1) rfl rfl ?_ ⟨rfl, ⟨.mk _ [⟨nGet, b1⟩, ⟨nCookie, b2⟩], rfl, by simp [varsP, hr, TBinding.con, q1, q2]⟩, from_slc (by omega) ?_⟩
    · intro row hrow a ha
      simp at hrow
      rcases hrow with rfl | rfl <;> exact TBinding.cells _ a ha
    · intro row hrow a ha
      simp at hrow
      rcases hrow with rfl | rfl
      · simp [TBinding.enc] at ha
        rcases ha with rfl | rfl | rfl | rfl | rfl | rfl
        · simp
        · simp
        · simp
        · simp
        · simp
        · exact (from_val f1).mono (by omega)
      · simp [TBinding.enc] at ha
        rcases ha with rfl | rfl | rfl | rfl | rfl | rfl
        · simp
        · simp
        · simp
        · simp
        · simp
        · exact (from_val f2).mono (by omega)
end A
end Go.Proofs.YtmhmaokbicgmbaaGreatDoor

/-
  Marks on a request kept as0 objects. No condition.
-/

namespace Go.Proofs.YtmhmaokbicgmbaaGreatDoor
namespace A
set_option linter.unusedVariables false
set_option linter.unusedSimpArgs false
set_option maxRecDepth 100000

/-! ### marks on a request -/
theorem mark_inA {α : Type} {P : Program} {f w : Nat} {encO : α → List AV} {inn : α → List AObj} {mk : Int → α → α} {cnt : α → Nat} {K : AV → List AObj → Nat → Prop} {A C : List AObj} {s : SL α} {k n : Int} {c : Nat}
    (hf : Con P f [s.ref w, .int .i64 k] (s.wood w encO inn) c fun r H' _ => r = .int .i64 n ∧ H' = (s.marks mk cnt k).wood w encO inn)
    (hi : ∀ k x, tags (inn (mk k x)) = tags (inn x)) (hO : ∀ x a, a ∈ encO x → Free a) (hI : ∀ x o, o ∈ inn x → ∀ T, AvRows T o) {H X : List AObj} {B : AObj} (hH : H = A ++ (s.wood w encO inn ++ C)) (hX : A ++ ((s.marks mk cnt k).wood w encO inn ++ C) = X ++ [B]) (kk : ∀ c', c ≤ c' → K (.int .i64 n) (X ++ [B]) c') :
    CallW P f [s.ref w, .int .i64 k] H c K := by
  rw [hH, ← List.append_assoc]
  exact mark_mid hf hi hO hI fun c' h => by rw [List.append_assoc, hX]; exact kk c' h
theorem marks_wood_len {α : Type} {w : Nat} {encO : α → List AV} {inn : α → List AObj} {mk : Int → α → α} {cnt : α → Nat} (hi : ∀ k x, tags (inn (mk k x)) = tags (inn x)) (k : Int) (s : SL α) : ((s.marks mk cnt k).wood w encO inn).length = (s.wood w encO inn).length := by
  have := congrArg List.length (tags_wood (w := w) (encO := encO) (cnt := cnt) hi k s)
  simpa [tags] using this
theorem getW_endN {α : Type} {X : List α} {B : α} {n : Nat} (h : X.length = n) (K : α → Prop) : getW (X ++ [B]) n K = K B := getW_of (by rw [List.getElem?_append_right (by omega)]; simp [h]) K
def mkRequest (k : Int) (s : TRequest) : TRequest := { s with Query := s.Query.marks mkPair cPair k, Cookies := s.Cookies.marks mkPair cPair (k + szL cPair s.Query.list) }
def cRequest (s : TRequest) : Nat := szL cPair s.Query.list + szL cPair s.Cookies.list
theorem mkRequest_tags (k : Int) (s : TRequest) : tags (mkRequest k s).inn = tags s.inn := by
  have eT : ∀ X Y : List AObj, tags (X ++ Y) = tags X ++ tags Y := fun X Y => by simp [tags]
  unfold TRequest.inn
  simp only [eT, mkRequest]
  rw [flat_marks (enc := TPair.enc) (w := 2) mkPair cPair, flat_marks (enc := TPair.enc) (w := 2) mkPair cPair]
theorem markRequest_con {s : TRequest} (hz : szL cPair s.Query.list ≤ 8388608 ∧ szL cPair s.Cookies.list ≤ 8388608) {k : Int} (hk : 0 ≤ k ∧ k ≤ 1048576) (c : Nat) :
    Con Tryz.prog 11 [.agg s.encO, .int .i64 k] s.inn c fun r O _ => r = .int .i64 (k + cRequest s) ∧ O = (mkRequest k s).inn := by
  obtain ⟨z1, z2⟩ := hz
  refine con_of c11 (by simp [F11]) ?_
  unfold F11
  simp
  generalize hn : s.inn.length = n
  unfold TRequest.inn at hn ⊢
  have hn0 := hn
  simp only [List.length_append] at hn
  have l0 := marks_wood_len (w := 2) (encO := TPair.enc) (inn := noInn) (mk := mkPair) (cnt := cPair) (fun _ _ => rfl) k s.Query
  have l1 := marks_wood_len (w := 2) (encO := TPair.enc) (inn := noInn) (mk := mkPair) (cnt := cPair) (fun _ _ => rfl) (k + szL cPair s.Query.list) s.Cookies
  obtain ⟨X0, hX0⟩ : ∃ X : List AObj, X = ((s.Query.marks mkPair cPair k).wood 2 TPair.enc noInn) ++ (s.Cookies.wood 2 TPair.enc noInn) := ⟨_, rfl⟩
  have hl0 : X0.length = n := by rw [hX0]; simp only [List.length_append]; omega
  refine mark_inA (A := []) (C := (s.Cookies.wood 2 TPair.enc noInn) ++ ([(⟨false, c, 3, [s.encO]⟩ : AObj)])) (markPair_con (s := s.Query) (by omega) (k := k) ⟨by omega, by omega⟩ _) (fun _ _ => rfl) (fun x a ha => (TPair.flat x a ha).2) (fun x o ho => by cases ho) (X := X0) (B := ⟨false, c, 3, [s.encO]⟩) (by simp) (by rw [hX0]; simp) fun c0 _ => ?_
  simp [getW_endN hl0]
  obtain ⟨X1, hX1⟩ : ∃ X : List AObj, X = ((s.Query.marks mkPair cPair k).wood 2 TPair.enc noInn) ++ ((s.Cookies.marks mkPair cPair (k + szL cPair s.Query.list)).wood 2 TPair.enc noInn) := ⟨_, rfl⟩
  have hl1 : X1.length = n := by rw [hX1]; simp only [List.length_append]; omega
  refine mark_inA (A := ((s.Query.marks mkPair cPair k).wood 2 TPair.enc noInn)) (C := [(⟨false, c, 3, [s.encO]⟩ : AObj)]) (markPair_con (s := s.Cookies) (by omega) (k := k + szL cPair s.Query.list) ⟨by omega, by omega⟩ _) (fun _ _ => rfl) (fun x a ha => (TPair.flat x a ha).2) (fun x o ho => by cases ho) (X := X1) (B := ⟨false, c, 3, [s.encO]⟩) (by rw [hX0]; simp) (by rw [hX1]; simp) fun c1 _ => ?_
  simp [getW_endN hl1]
  refine fin_sub (Hk := X1) (List.sublist_append_left _ _) (.refl _) ⟨?_, ?_⟩
  · simp [cRequest]; omega
  · rw [hX1]; rfl
theorem view_mReq {S : List AObj} {s : TRequest} {k : Int} (hs : ∀ o, o ∈ (mkRequest k s).inn → o ∈ S) : View S (.agg s.encO) (.agg (mkRequest k s).enc) := by
  have e : s.encO = (mkRequest k s).encO := by unfold TRequest.encO mkRequest; simp [SL.marks_ref]
  rw [e]
  exact view_ARequest hs

end A
end Go.Proofs.YtmhmaokbicgmbaaGreatDoor

/-
  What reads the marks on bindings: printed by a program (wip/tools/genobj.py). No condition.
-/

namespace Go.Proofs.YtmhmaokbicgmbaaGreatDoor
namespace A
set_option linter.unusedVariables false
set_option linter.unusedSimpArgs false
set_option maxRecDepth 100000

theorem heldEntry_nil (k : Int) : Fnc Tryz.prog 37 [.nsl, .int .i64 k] (.int .i64 k) := by
  refine fn_of c37 (by simp [F37]) fun c => ?_
  unfold F37
  simp
  refine loop_drop 0 (fun i e H c' => e 0 = .nsl ∧ e 1 = .int .i64 k ∧ e 5 = .int .i64 0 ∧ H = []) ⟨rfl, rfl, rfl, rfl⟩ ?_
  intro i e H c hi ⟨e0, e1, e5, hH⟩ N hN
  subst hH
  simp [e0, e1, e5]
  exact fin_plain ⟨rfl, rfl⟩
set_option maxHeartbeats 4000000 in
theorem heldEntry_fn1 {l : List TEntry} (hz : szL cEntry l ≤ 16777216) {k : Int} (hk : 0 ≤ k ∧ k ≤ 1099511627776) (t : Nat) :
    Fnc Tryz.prog 37 [(SL.mk t (mks mkEntry cEntry k l)).av 8 TEntry.enc, .int .i64 k] (.int .i64 (k + szL cEntry l)) := by
  have hln := szL_cEntry l
  refine fn_of c37 (by simp [F37]) fun c => ?_
  unfold F37
  simp
  have hlen := mks_len mkEntry cEntry k l
  refine loop_drop l.length (fun i e H c' => e 0 = (SL.mk t (mks mkEntry cEntry k l)).av 8 TEntry.enc ∧ e 1 = .int .i64 (k + szL cEntry (l.take i)) ∧ e 5 = .int .i64 i ∧ H = []) ⟨rfl, by simp [szL], rfl, rfl⟩ ?_
  intro i e H c hi ⟨e0, e1, e5, hH⟩ N hN
  subst hH
  have hg := fun h : i < l.length => mks_get mkEntry cEntry k l h
  have hst := fun h : i < l.length => szL_step cEntry l h
  have hle := szL_le cEntry l i
  have hle' := szL_le cEntry l (i + 1)
  generalize hjj : k + (szL cEntry (l.take i) : Int) = j at e1 hg
  simp [e0, e1, e5, hlen]
  refine ⟨fun h => ?_, fun h => ?_⟩
  · have hg := hg h
    have hst := hst h
    have hx := szL_mem (sz := cEntry) (List.getElem_mem h)
    generalize l[i] = x at hg hst hx
    simp only [cEntry] at hx hst
    have w0 : IntKind.i64.wrap (j + 1) = j + 1 := wrap64 (by omega) (by omega)
    have f0 : (mkEntry j x).Key.Text = decide ((j).tmod 3 = 0) := rfl
    have w1 : IntKind.i64.wrap (j + 1 + 1) = j + 1 + 1 := wrap64 (by omega) (by omega)
    have f1 : (mkEntry j x).Key.Num = j + 1 := rfl
    have w2 : IntKind.i64.wrap (j + 1 + 1 + 1) = j + 1 + 1 + 1 := wrap64 (by omega) (by omega)
    have f2 : (mkEntry j x).Key.Str = mtext (j + 1 + 1) := rfl
    have w3 : IntKind.i64.wrap (j + 1 + 1 + 1 + 1) = j + 1 + 1 + 1 + 1 := wrap64 (by omega) (by omega)
    have f3 : (mkEntry j x).Val.Kind = j + 1 + 1 + 1 := rfl
    have w4 : IntKind.i64.wrap (j + 1 + 1 + 1 + 1 + 1) = j + 1 + 1 + 1 + 1 + 1 := wrap64 (by omega) (by omega)
    have f4 : (mkEntry j x).Val.Num = j + 1 + 1 + 1 + 1 := rfl
    have w5 : IntKind.i64.wrap (j + 1 + 1 + 1 + 1 + 1 + 1) = j + 1 + 1 + 1 + 1 + 1 + 1 := wrap64 (by omega) (by omega)
    have f5 : (mkEntry j x).Val.Str = mtext (j + 1 + 1 + 1 + 1 + 1) := rfl
    have w6 : IntKind.i64.wrap (j + 1 + 1 + 1 + 1 + 1 + 1 + 1) = j + 1 + 1 + 1 + 1 + 1 + 1 + 1 := wrap64 (by omega) (by omega)
    have f6 : (mkEntry j x).Val.Next = j + 1 + 1 + 1 + 1 + 1 + 1 := rfl
    refine ⟨_, hg, ?_⟩
    simp [e0, e1, e5, h, w0, w1, w2, w3, w4, w5, w6, f0, f1, f2, f3, f4, f5, f6]
    refine ⟨_, hg, ?_⟩
    simp [e0, e1, e5, h, w0, w1, w2, w3, w4, w5, w6, f0, f1, f2, f3, f4, f5, f6]
    refine ⟨_, hg, ?_⟩
    simp [e0, e1, e5, h, w0, w1, w2, w3, w4, w5, w6, f0, f1, f2, f3, f4, f5, f6]
    refine callF_fn0 (mtext_fn (by omega)) .str fun _ _ => ?_
    simp [e0, e1, e5, h, w0, w1, w2, w3, w4, w5, w6, f0, f1, f2, f3, f4, f5, f6]
    refine ⟨_, hg, ?_⟩
    simp [e0, e1, e5, h, w0, w1, w2, w3, w4, w5, w6, f0, f1, f2, f3, f4, f5, f6]
    refine ⟨_, hg, ?_⟩
    simp [e0, e1, e5, h, w0, w1, w2, w3, w4, w5, w6, f0, f1, f2, f3, f4, f5, f6]
    refine ⟨_, hg, ?_⟩
    simp [e0, e1, e5, h, w0, w1, w2, w3, w4, w5, w6, f0, f1, f2, f3, f4, f5, f6]
    refine callF_fn0 (mtext_fn (by omega)) .str fun _ _ => ?_
    simp [e0, e1, e5, h, w0, w1, w2, w3, w4, w5, w6, f0, f1, f2, f3, f4, f5, f6]
    refine ⟨_, hg, ?_⟩
    simp [e0, e1, e5, h, w0, w1, w2, w3, w4, w5, w6, f0, f1, f2, f3, f4, f5, f6]
    refine ⟨_, hg, ?_⟩
    simp [e0, e1, e5, h, w0, w1, w2, w3, w4, w5, w6, f0, f1, f2, f3, f4, f5, f6]
    refine call_fn0 (heldEntry_nil _) .int fun _ _ => ?_
    have pn : ¬ (j + 1 + 1 + 1 + 1 + 1 + 1 + 1 < 0) := by omega
    simp [e0, e1, e5, h, w0, w1, w2, w3, w4, w5, w6, f0, f1, f2, f3, f4, f5, f6, pn]
    refine hN _ _ _ _ h (List.Sublist.refl _) ⟨by simp [upd, e0], ?_, by simp [upd]; exact step64 (by unfold mx; omega) h, rfl⟩
    simp [upd, w0, w1, w2, w3, w4, w5, w6, hst]; omega
  · have h1 : i = l.length := by omega
    subst h1
    refine fin_plain ⟨?_, rfl⟩
    rw [← hjj]; simp
theorem heldEntry_fn {s : SL TEntry} (hz : szL cEntry s.list ≤ 16777216) {k : Int} (hk : 0 ≤ k ∧ k ≤ 1099511627776) :
    Fnc Tryz.prog 37 [(s.marks mkEntry cEntry k).av 8 TEntry.enc, .int .i64 k] (.int .i64 (k + szL cEntry s.list)) := by
  cases s with
  | nil =>
    have := heldEntry_nil k
    simpa [SL.av, SL.marks, szL] using this
  | mk t l => exact heldEntry_fn1 (l := l) hz hk t
theorem heldBinding_nil (k : Int) : Fnc Tryz.prog 13 [.nsl, .int .i64 k] (.int .i64 k) := by
  refine fn_of c13 (by simp [F13]) fun c => ?_
  unfold F13
  simp
  refine loop_drop 0 (fun i e H c' => e 0 = .nsl ∧ e 1 = .int .i64 k ∧ e 5 = .int .i64 0 ∧ H = []) ⟨rfl, rfl, rfl, rfl⟩ ?_
  intro i e H c hi ⟨e0, e1, e5, hH⟩ N hN
  subst hH
  simp [e0, e1, e5]
  exact fin_plain ⟨rfl, rfl⟩
set_option maxHeartbeats 4000000 in
theorem heldBinding_fn1 {l : List TBinding} (hz : szL cBinding l ≤ 16777216) {k : Int} (hk : 0 ≤ k ∧ k ≤ 549755813888) (t : Nat) :
    Fnc Tryz.prog 13 [(SL.mk t (mks mkBinding cBinding k l)).av 6 TBinding.enc, .int .i64 k] (.int .i64 (k + szL cBinding l)) := by
  have hln := szL_cBinding l
  refine fn_of c13 (by simp [F13]) fun c => ?_
  unfold F13
  simp
  have hlen := mks_len mkBinding cBinding k l
  refine loop_drop l.length (fun i e H c' => e 0 = (SL.mk t (mks mkBinding cBinding k l)).av 6 TBinding.enc ∧ e 1 = .int .i64 (k + szL cBinding (l.take i)) ∧ e 5 = .int .i64 i ∧ H = []) ⟨rfl, by simp [szL], rfl, rfl⟩ ?_
  intro i e H c hi ⟨e0, e1, e5, hH⟩ N hN
  subst hH
  have hg := fun h : i < l.length => mks_get mkBinding cBinding k l h
  have hst := fun h : i < l.length => szL_step cBinding l h
  have hle := szL_le cBinding l i
  have hle' := szL_le cBinding l (i + 1)
  generalize hjj : k + (szL cBinding (l.take i) : Int) = j at e1 hg
  simp [e0, e1, e5, hlen]
  refine ⟨fun h => ?_, fun h => ?_⟩
  · have hg := hg h
    have hst := hst h
    have hx := szL_mem (sz := cBinding) (List.getElem_mem h)
    generalize l[i] = x at hg hst hx
    simp only [cBinding] at hx hst
    have w0 : IntKind.i64.wrap (j + 1) = j + 1 := wrap64 (by omega) (by omega)
    have f0 : (mkBinding j x).Name = mtext (j) := rfl
    have w1 : IntKind.i64.wrap (j + 1 + 1) = j + 1 + 1 := wrap64 (by omega) (by omega)
    have f1 : (mkBinding j x).Val.Kind = j + 1 := rfl
    have w2 : IntKind.i64.wrap (j + 1 + 1 + 1) = j + 1 + 1 + 1 := wrap64 (by omega) (by omega)
    have f2 : (mkBinding j x).Val.Num = j + 1 + 1 := rfl
    have w3 : IntKind.i64.wrap (j + 1 + 1 + 1 + 1) = j + 1 + 1 + 1 + 1 := wrap64 (by omega) (by omega)
    have f3 : (mkBinding j x).Val.Str = mtext (j + 1 + 1 + 1) := rfl
    have w4 : IntKind.i64.wrap (j + 1 + 1 + 1 + 1 + 1) = j + 1 + 1 + 1 + 1 + 1 := wrap64 (by omega) (by omega)
    have f4 : (mkBinding j x).Val.Next = j + 1 + 1 + 1 + 1 := rfl
    have f5 : (mkBinding j x).Val.Items = x.Val.Items.marks mkEntry cEntry (j + 1 + 1 + 1 + 1 + 1) := rfl
    have p5 : ¬ (j + 1 + 1 + 1 + 1 + 1 + szL cEntry x.Val.Items.list < 0) := by omega
    refine ⟨_, hg, ?_⟩
    simp [e0, e1, e5, h, w0, w1, w2, w3, w4, f0, f1, f2, f3, f4, f5, p5]
    refine callF_fn0 (mtext_fn (by omega)) .str fun _ _ => ?_
    simp [e0, e1, e5, h, w0, w1, w2, w3, w4, f0, f1, f2, f3, f4, f5, p5]
    refine ⟨_, hg, ?_⟩
    simp [e0, e1, e5, h, w0, w1, w2, w3, w4, f0, f1, f2, f3, f4, f5, p5]
    refine ⟨_, hg, ?_⟩
    simp [e0, e1, e5, h, w0, w1, w2, w3, w4, f0, f1, f2, f3, f4, f5, p5]
    refine ⟨_, hg, ?_⟩
    simp [e0, e1, e5, h, w0, w1, w2, w3, w4, f0, f1, f2, f3, f4, f5, p5]
    refine callF_fn0 (mtext_fn (by omega)) .str fun _ _ => ?_
    simp [e0, e1, e5, h, w0, w1, w2, w3, w4, f0, f1, f2, f3, f4, f5, p5]
    refine ⟨_, hg, ?_⟩
    simp [e0, e1, e5, h, w0, w1, w2, w3, w4, f0, f1, f2, f3, f4, f5, p5]
    refine ⟨_, hg, ?_⟩
    simp [e0, e1, e5, h, w0, w1, w2, w3, w4, f0, f1, f2, f3, f4, f5, p5]
    refine call_fn0 (heldEntry_fn (s := x.Val.Items) (by omega) (k := j + 1 + 1 + 1 + 1 + 1) ⟨by omega, by omega⟩) .int fun _ _ => ?_
    simp [e0, e1, e5, h, w0, w1, w2, w3, w4, f0, f1, f2, f3, f4, f5, p5]
    refine hN _ _ _ _ h (List.Sublist.refl _) ⟨by simp [upd, e0], ?_, by simp [upd]; exact step64 (by unfold mx; omega) h, rfl⟩
    simp [upd, w0, w1, w2, w3, w4, hst]; omega
  · have h1 : i = l.length := by omega
    subst h1
    refine fin_plain ⟨?_, rfl⟩
    rw [← hjj]; simp
theorem heldBinding_fn {s : SL TBinding} (hz : szL cBinding s.list ≤ 16777216) {k : Int} (hk : 0 ≤ k ∧ k ≤ 549755813888) :
    Fnc Tryz.prog 13 [(s.marks mkBinding cBinding k).av 6 TBinding.enc, .int .i64 k] (.int .i64 (k + szL cBinding s.list)) := by
  cases s with
  | nil =>
    have := heldBinding_nil k
    simpa [SL.av, SL.marks, szL] using this
  | mk t l => exact heldBinding_fn1 (l := l) hz hk t
end A
end Go.Proofs.YtmhmaokbicgmbaaGreatDoor

/-
  RequestVars: the law answers true. No condition.
-/



namespace Go.Proofs.YtmhmaokbicgmbaaGreatDoor
namespace A
set_option linter.unusedVariables false
set_option linter.unusedSimpArgs false
set_option maxRecDepth 100000

theorem varsP_con {a b : TRequest} (h : a.con = b.con) : varsP a = varsP b := by
  obtain ⟨_, h2, h3⟩ := req_same h
  unfold varsP
  rw [isReq_con h, h2, h3]
theorem req_sm {x : TRequest} (h : x.sz ≤ 1048576) : SmP x.Query.list ∧ SmP x.Cookies.list := by
  have h0 : x.sz = x.Path.length + (x.Query.list.length + szL TPair.sz x.Query.list) + (x.Cookies.list.length + szL TPair.sz x.Cookies.list) := rfl
  refine ⟨⟨by omega, fun y hy => ?_⟩, ⟨by omega, fun y hy => ?_⟩⟩
  · have := szL_mem (sz := TPair.sz) hy
    have h1 : y.sz = y.Name.length + y.Value.length := rfl
    omega
  · have := szL_mem (sz := TPair.sz) hy
    have h1 : y.sz = y.Name.length + y.Value.length := rfl
    omega
theorem vars_bnd {x : TRequest} (h : x.sz ≤ 1048576) {l : List TBinding} (hl : l.map TBinding.con = (varsP x).map TBinding.con) : l.length ≤ 2 ∧ (∀ y, y ∈ l → y.Val.Items.list.length ≤ mx) ∧ szL cBinding l ≤ 16777216 := by
  have h0 : x.sz = x.Path.length + (x.Query.list.length + szL TPair.sz x.Query.list) + (x.Cookies.list.length + szL TPair.sz x.Cookies.list) := rfl
  unfold varsP at hl
  split at hl
  · have b1 := (arrP_bnd x.Query.list).2.2
    have b2 := (arrP_bnd x.Cookies.list).2.2
    rw [List.map_cons, List.map_cons, List.map_nil] at hl
    obtain ⟨y1, l1, rfl, hy1, hl1⟩ := List.map_eq_cons_iff.1 hl
    obtain ⟨y2, l2, rfl, hy2, hl2⟩ := List.map_eq_cons_iff.1 hl1
    have hl3 := List.map_eq_nil_iff.1 hl2
    subst hl3
    have e1 : y1.Val.Items.list = (arrP x.Query.list).1 := (value_same (congrArg TBinding.Val hy1 : y1.con.Val = (TBinding.con ⟨nGet, arrV x.Query.list⟩).Val)).2.2.2.2
    have e2 : y2.Val.Items.list = (arrP x.Cookies.list).1 := (value_same (congrArg TBinding.Val hy2 : y2.con.Val = (TBinding.con ⟨nCookie, arrV x.Cookies.list⟩).Val)).2.2.2.2
    refine ⟨by simp, fun y hy => ?_, ?_⟩
    · simp at hy
      rcases hy with rfl | rfl
      · rw [e1]; unfold mx; omega
      · rw [e2]; unfold mx; omega
    · have s1 := szL_eEntry y1.Val.Items.list
      have s2 := szL_eEntry y2.Val.Items.list
      have s3 : szL cBinding [y1, y2] = (5 + szL cEntry y1.Val.Items.list) + (5 + szL cEntry y2.Val.Items.list) := by simp [szL, cBinding]
      rw [s3, s1, s2, e1, e2]
      omega
  · have : l = [] := by simpa using hl
    subst this
    exact ⟨by simp, by simp, by simp [szL]⟩
/-- A call that is handed some of the objects, wherever they stand. -/
theorem call_atH {P : Program} {K : AV → List AObj → Nat → Prop} {f : Nat} {l l' : List AV} {A B C H : List AObj} {c : Nat} {Q : AV → List AObj → Nat → Prop} (hf : Con P f l' B c Q) (hv : Views [] l l') (hH : H = A ++ (B ++ C))
    (k : ∀ r B' c', c ≤ c' → Q r B' c' → tags B' = tags B ∧ Av [] r ∧ (∀ o, o ∈ B' → AvRows [] o) ∧ K r (A ++ (B' ++ C)) c') : CallW P f l H c K := by
  rw [hH, ← List.append_assoc]
  exact call_mid hf hv fun r B' c' hc hq => by rw [List.append_assoc]; exact k r B' c' hc hq
theorem callD_fnv {P : Program} {H : List AObj} {c : Nat} {R : AV → Prop} {f : Nat} {l l' : List AV} {K : AV → Prop} {res : AV} (hv : Views H l l') (hf : Fnc P f l' res) (hR : ∀ v, R v ↔ v = res) (hfr : ∀ c, From c res) (k : K res) : callD P R f l H c K :=
  ⟨l', hv, (fun c => (hf c).mono fun r H' c' _ ⟨h1, h2⟩ => ⟨h2, (hR r).2 h1, h1 ▸ hfr c⟩), ⟨res, (hR res).2 rfl, hfr c⟩, fun r hr _ => by rw [(hR r).1 hr]; exact k⟩
theorem law_vars {a : TRequest} (ha : a.ok) (c : Nat) : Con Tryz.prog 3 [.agg a.enc] [] c fun r H' _ => r = .bool true ∧ H' = [] := by
  refine con_of c3 (by simp [F3]) ?_
  unfold F3
  simp
  refine call_fn0 (TRequest.sz_fn ha ⟨by omega, by omega⟩) .int fun _ _ => ?_
  simp
  refine ⟨fun _ => fin_plain ⟨rfl, rfl⟩, fun h1 => ?_⟩
  obtain ⟨h1', h1''⟩ := szOf_ge h1
  have hz : ∀ x : TRequest, x.con = a.con → x.sz ≤ 1048576 := fun x hx => by rw [← x.sz_con, hx, a.sz_con]; omega
  refine call_tree0 (TRequest.to_fn (hz a rfl)) fun r1 _ _ ⟨a1, e1, q1⟩ _ => ?_
  subst e1
  simp
  refine call_tree0 (spec_vars (reqOk_con q1 ha) (req_sm (hz _ q1)).1 (req_sm (hz _ q1)).2) fun r2 _ _ ⟨w, e2, q2⟩ _ => ?_
  subst e2
  rw [varsP_con q1] at q2
  simp
  refine call_new (toRequestO (hz a rfl) _) (Views.refl _ _) fun r3 O c3 hc3 ⟨x, e3, hO, q3⟩ _ _ => ?_
  subst e3; subst hO
  refine ⟨_, .refl _, free_agg (TRequest.freeO x) _, fun o ho => TRequest.freeI x o ho _, ?_⟩
  simp [putA]
  obtain ⟨m1, m2⟩ := req_sm (hz _ q3)
  refine call_new (impl_vars (reqOk_con q3 ha) m1 m2 _) (.cons (view_ARequest (fun o ho => by simp [ho])) .nil) fun r4 O c4 hc4 ⟨g, e4, hO, q4⟩ _ _ => ?_
  subst e4; subst hO
  rw [varsP_con q3] at q4
  refine ⟨_, .refl _, free_ref _ _ _, fun o ho => free_wood TBinding.freeO TBinding.freeI _ o ho _, ?_⟩
  obtain ⟨g1, g2, g3⟩ := vars_bnd (hz a rfl) q4
  have hgm : g.list.length ≤ mx := by unfold mx; omega
  have hgw : g.list.map TBinding.con = w.list.map TBinding.con := q4.trans q2.symm
  simp
  refine call_fn (eqBindingS_fn (s := g) (t := w) hgm g2 hgw) (.cons (view_OBinding (fun o ho => by simp [ho])) (.cons (.refl _) .nil)) .bool fun _ _ => ?_
  simp
  refine ⟨fun d v => if d = 29 then IsQ a v else v = .bool true, ?_⟩
  simp
  refine callD_tree0 (TRequest.to_fn (hz a rfl)) (IsQ_some a _) fun r5 ⟨a5, e5, q5⟩ _ => ?_
  subst e5
  simp
  refine callD_fnv (.cons (view_ARequest (fun o ho => by simp [ho])) (.cons (.refl _) .nil)) (TRequest.eq_fn (a := x) (b := a5) (by have := hz _ q3; omega) (q3.trans q5.symm)) (fun v => Iff.rfl) (by simp) ?_
  simp
  intro c6 _
  have hk1 : ¬ ((1 : Int) + (cRequest x : Int) < 0) := by omega
  have hk2 : ¬ ((1 : Int) + (szL cBinding g.list : Int) < 0) := by omega
  have hxs : szL cPair x.Query.list ≤ 8388608 ∧ szL cPair x.Cookies.list ≤ 8388608 := by
    have h2 := m1.1
    have h3 := m2.1
    rw [szL_ePair, szL_ePair]
    omega
  refine call_atH (A := [_]) (B := x.inn) (markRequest_con (s := x) hxs (k := 1) ⟨by omega, by omega⟩ _) (Views.refl _ _) rfl fun r B' c7 _ ⟨p1, p2⟩ => ?_
  subst p1; subst p2
  refine ⟨mkRequest_tags _ _, .int, fun o ho => TRequest.freeI _ o ho _, ?_⟩
  have hlX : (mkRequest 1 x).inn.length = x.inn.length := by
    have := congrArg List.length (mkRequest_tags 1 x)
    simpa [tags] using this
  generalize (mkRequest 1 x).inn = X at hlX ⊢
  simp [hk1, ← hlX]
  refine call_fn (eqBindingS_fn (s := g) (t := w) hgm g2 hgw) (.cons (view_OBinding (fun o ho => by simp [ho])) (.cons (.refl _) .nil)) .bool fun _ _ => ?_
  simp [hk1, ← hlX]
  refine call_atH (A := [⟨false, c, 3, [a.enc]⟩] ++ (X ++ [⟨false, c3, 3, [x.encO]⟩])) (B := g.wood 6 TBinding.encO TBinding.inn) (C := []) (markBinding_con (s := g) g3 (k := 1) ⟨by omega, by omega⟩ _) (Views.refl _ _) (by simp) fun r B' c8 _ ⟨p1, p2⟩ => ?_
  subst p1; subst p2
  refine ⟨tags_wood mkBinding_tags _ _, .int, fun o ho => free_wood TBinding.freeO TBinding.freeI _ o ho _, ?_⟩
  have hv : ∀ S : List AObj, (∀ o, o ∈ (g.marks mkBinding cBinding 1).wood 6 TBinding.encO TBinding.inn → o ∈ S) → View S (g.ref 6) ((g.marks mkBinding cBinding 1).av 6 TBinding.enc) := fun S h => by
    rw [← SL.marks_ref (mk := mkBinding) (cnt := cBinding) 1 g]
    exact view_OBinding h
  generalize (g.marks mkBinding cBinding 1).wood 6 TBinding.encO TBinding.inn = G at hv ⊢
  simp [hk1, hk2, ← hlX]
  refine call_fn (heldBinding_fn (s := g) g3 (k := 1) ⟨by omega, by omega⟩) (.cons (hv _ fun o ho => by simp [ho]) (.cons (.refl _) .nil)) .int fun _ _ => ?_
  simp [hk1, hk2, ← hlX]
  refine call_tree0 (TRequest.to_fn (hz a rfl)) fun r6 _ _ ⟨a6, e6, q6⟩ _ => ?_
  subst e6
  simp [hk1, hk2, ← hlX]
  refine call_tree0 (vars_tr fun c => impl_vars (reqOk_con q6 ha) (req_sm (hz _ q6)).1 (req_sm (hz _ q6)).2 c) fun r7 _ _ ⟨y, e7, q7⟩ _ => ?_
  subst e7
  rw [varsP_con q6] at q7
  obtain ⟨y1, y2, y3⟩ := vars_bnd (hz a rfl) q7
  have hym : y.list.length ≤ mx := by unfold mx; omega
  simp [hk1, hk2, ← hlX]
  refine call_fn0 (eqBindingS_fn (s := y) (t := w) hym y2 (q7.trans q2.symm)) .bool fun _ _ => ?_
  simp [hk1, hk2, ← hlX]
  refine call_fn (heldBinding_fn (s := g) g3 (k := 1) ⟨by omega, by omega⟩) (.cons (hv _ fun o ho => by simp [ho]) (.cons (.refl _) .nil)) .int fun _ _ => ?_
  simp [hk1, hk2, ← hlX]
  exact fin_plain ⟨rfl, rfl⟩
end A
end Go.Proofs.YtmhmaokbicgmbaaGreatDoor

/-
  The wrap of a row that lists package variables, the world's shape kept. No condition.
-/


namespace Go.Proofs.YtmhmaokbicgmbaaGreatDoor
namespace A
open Go.RowKit
set_option linter.unusedVariables false
section
variable {H : Type} {enc : TypeId × Value → H}
theorem returns_shaped {a : Assume} {C : Checked} {os : Os} {f : FuncId} {fn : Func} {s : ChangeSpec} {conds : List PathCond} {apart fresh handsOn again : Bool} {X : World → Array Value → Prop}
    (hX : ∀ (w w' : World) (args : Array Value), w.heap = w'.heap → X w args → X w' args)
    (own : ownKnob C.prog.godebug = none) (started : os.Started) (noInit : C.prog.inits.idxOf? f = none) (hfn : C.prog.funcs[f]? = some fn)
    (witness : ∃ (w : World) (tape : Tape) (i : Input), w.os = os ∧ (w.forCall tape i).Shaped C.prog ∧ i.vars = [] ∧ Input.okWide C.prog (w.forCall tape i) .any w.heap.size f i ∧
      ((s.pre enc C.prog fn conds apart (w.forCall tape i).memory i.args ∧ X (w.forCall tape i).memory i.args) ∧ sizedMet enc C.prog fn (OpenSpec.ofChange s) apart (w.forCall tape i).memory i.args) ∧ a.holds C.prog (lone (Frame.enter C.prog f i.args .normal) [] (w.forCall tape i)))
    (contract : ∀ (W : World) (base : Nat) (args : Array Value) (ds gs : List (DataW H)) (before : List MemPlace),
      (∀ (j : Nat) t v, fn.params[j]? = some t → args[j]? = some v → Value.okWide C.prog W .any base t v) →
      DataW.Whole enc C.prog fn.params.toList s.vars apart W args.toList ds gs before →
      conds.all (PathCond.test C.prog ⟨fn.params.toList, ds, s.plain.varTypes C.prog, gs⟩) = true → X W args → W.ShapedOpen C.prog →
      Calls C.prog f args W fun e W' => ∃ v, e = .returned v ∧ s.post enc C.prog fn apart fresh handsOn again W args v W') :
    ReturnsInHanded a C os f .any (fun w args => (s.pre enc C.prog fn conds apart w args ∧ X w args) ∧ sizedMet enc C.prog fn (OpenSpec.ofChange s) apart w args) (s.post enc C.prog fn apart fresh handsOn again) := by
  refine returnsInHanded_of_calls own started noInit witness ?_
  intro w tape i _ hsh _ hok hpre _
  obtain ⟨_, _, _, fn', hfn', _, _, _, _, hval⟩ := hok
  have e : fn' = fn := Option.some.inj (hfn'.symm.trans hfn)
  subst e
  obtain ⟨⟨⟨ds, gs, before, hw, hc⟩, hx⟩, _⟩ := hpre
  refine (contract (w.forCall tape i) w.heap.size i.args ds gs before hval (DataW.Whole.of_heap (w' := w.forCall tape i) (by rfl) hw) hc (hX _ _ _ (by rfl) hx) hsh).mono fun e W' ⟨v, he, hp⟩ => ?_
  subst he
  exact ChangeSpec.post_blind hp
end
theorem cell_block {w : World} {m : Int} (hm : w.cell? ⟨0, 0, none⟩ = some (.int .i64 m)) : 0 < w.heap.size ∧ ∃ c t fr, w.heap[0]? = some (.cells c t fr) ∧ c[0]? = some (Value.int .i64 m) := by
  rw [cell?_eq] at hm
  unfold hcell at hm
  split at hm
  · rename_i c t fr hc
    exact ⟨(Array.getElem?_eq_some_iff.1 hc).1, c, t, fr, hc, hm⟩
  · cases hm
end A
end Go.Proofs.YtmhmaokbicgmbaaGreatDoor

/-
  A variable that is laid as0 an error, as0 it lies in the memory. No condition.
-/




namespace Go.Proofs.YtmhmaokbicgmbaaGreatDoor
namespace A
open Go.RowKit
set_option linter.unusedVariables false
theorem iface_of_head {P : Program} {W : World} {name nm : String} {d : DataW Unit} {rest : List (String × DataW Unit)} {g : Nat} {ti : TypeId}
    (hg : P.globalNamed name = some g) (hty : (P.globals[g]?).map (·.type) = some ti) (hi : isIfcT P ti = true) (h : laidMet P ((name, .iface nm d) :: rest) W) :
    ∃ t fr u v, W.heap[g]? = some (.cells #[.iface u v] t fr) := by
  obtain ⟨ps, ⟨g', t', cs, fuel, p, q, hg', ht', hvar, hd, _, _⟩, _⟩ := h
  obtain rfl := Option.some.inj (hg.symm.trans hg')
  obtain rfl := Option.some.inj (hty.symm.trans ht')
  obtain ⟨ms, hms⟩ : ∃ ms, P.underlying ti = some (.interface ms) := by
    unfold isIfcT at hi
    split at hi
    · rename_i ms h; exact ⟨ms, h⟩
    · cases hi
  obtain ⟨_, u, v, hcs, _, _⟩ := iface_of_trod hms hd
  unfold World.var? at hvar
  rw [hg] at hvar
  simp only [Option.bind_some] at hvar
  split at hvar
  · rename_i cs' t fr hc
    cases hvar
    refine ⟨t, fr, u, v, ?_⟩
    rw [hc]
    have : cs = #[.iface u v] := by rw [← Array.toList_inj, hcs]
    rw [this]
  · cases hvar
end A
end Go.Proofs.YtmhmaokbicgmbaaGreatDoor

/-
  Facts of the whole program that every row of the seat asks, each worked out once. No condition.
-/


namespace Go.Proofs.YtmhmaokbicgmbaaGreatDoor.Closed
open Go.ChangeShapes Go.WideShapes Go.RowKit
theorem heard : Tryz.pinned.checked.prog.stopsHeard = true := by kernel_rfl
theorem enter : Tryz.pinned.checked.prog.mayEnter = true := by kernel_rfl
theorem make : Tryz.pinned.checked.prog.make = some Rows.fnExactRequestVarsRow.make := by kernel_rfl
theorem lifts : Tryz.pinned.checked.prog.liftsFinal = Rows.fnExactRequestVarsRow.lifted := by kernel_rfl
end Go.Proofs.YtmhmaokbicgmbaaGreatDoor.Closed

/-
  FnExactRequestVars: the program's and the reference's give the same, for all arguments. No condition.
-/














namespace Go.Proofs.YtmhmaokbicgmbaaGreatDoor.fnExactRequestVars
open Go.ChangeShapes Go.WideShapes Go.ChangeAt Go.RowKit
open Go.Proofs.YtmhmaokbicgmbaaGreatDoor.A
set_option linter.unusedVariables false

theorem own : ownKnob Tryz.prog.godebug = none := by kernel_rfl

def types : List TypeId := [24, 9, 22, 85, 4]

set_option maxRecDepth 100000 in
theorem lifted (os : Os) (started : os.Started) (H : Type) (enc : TypeId × Value → H) :
    ReturnsInHanded {} Tryz.checked os 3 .any (fun w args => (Rows.fnExactRequestVarsSpec.pre enc Tryz.prog Tryz.f3 Rows.fnExactRequestVarsRow.domain false w args ∧ laidMetH Tryz.prog Rows.fnExactRequestVarsRow.laid w) ∧ sizedMet enc Tryz.prog Tryz.f3 (OpenSpec.ofChange Rows.fnExactRequestVarsSpec) false w args) (Rows.fnExactRequestVarsSpec.post enc Tryz.prog Tryz.f3 false true false false) := by
  refine A.returns_shaped (C := Tryz.checked) (X := fun w _ => laidMetH Tryz.prog Rows.fnExactRequestVarsRow.laid w) (fun _ _ _ hh h => h.of_heap hh) own started (by kernel_rfl) Tryz.func3
    (ChangeSpec.witness_shaped (enc := enc) (C := Tryz.checked) (os := os) (X := fun w _ => laidMetH Tryz.prog Rows.fnExactRequestVarsRow.laid w) false (World.laidAll Tryz.prog os Rows.fnExactRequestVarsRow.laid) #[.agg #[.string ⟨#[]⟩, .slice none 0 0, .slice none 0 0]] 8 (World.laidAll_os _ _ _)
      (World.shaped_of_ZipB (by kernel_rfl) (by kernel_rfl)) (by kernel_rfl) (by kernel_rfl) (by kernel_rfl)
      (by rw [MakeChecks.laidMetH_plain _ _ _ (by kernel_rfl)]; exact laidMet_laidAll _ (by kernel_rfl) (by kernel_rfl))) ?_
  intro W base args ds gs before hval0 hW hcnd hL hsh
  obtain ⟨m, hm⟩ := Tryz.laysM146.s1_3 W hsh
  have htab : Lib.TabIs Tryz.prog W "internal/strconv.uint64pow10" .u64 Lib.pow10Tab := by
    have h1 := hL.filter fun x => x.1 == "internal/strconv.uint64pow10"
    rw [show (Rows.fnExactRequestVarsRow.laid.filter fun x => x.1 == "internal/strconv.uint64pow10") = [("internal/strconv.uint64pow10", Lib.tabData .u64 Lib.pow10Tab)] from by kernel_rfl, MakeChecks.laidMetH_plain _ _ _ (by kernel_rfl)] at h1
    exact Lib.tabIs_of_head (g := 5) (t := 178) (e := 163) (n := 20) (by kernel_rfl) (by kernel_rfl) (by kernel_rfl) (by kernel_rfl) (by kernel_rfl) (by kernel_rfl) h1
  have heS : ∃ t fr u v, W.heap[3]? = some (.cells #[.iface u v] t fr) := by
    have h1 := hL.filter fun x => x.1 == "strconv.ErrSyntax"
    rw [show (Rows.fnExactRequestVarsRow.laid.filter fun x => x.1 == "strconv.ErrSyntax") = [("strconv.ErrSyntax", Rows.laid_strconv_ErrSyntax)] from by kernel_rfl, MakeChecks.laidMetH_plain _ _ _ (by kernel_rfl)] at h1
    exact iface_of_head (ti := 122) (by kernel_rfl) (by kernel_rfl) (by kernel_rfl) h1
  have heR : ∃ t fr u v, W.heap[4]? = some (.cells #[.iface u v] t fr) := by
    have h1 := hL.filter fun x => x.1 == "strconv.ErrRange"
    rw [show (Rows.fnExactRequestVarsRow.laid.filter fun x => x.1 == "strconv.ErrRange") = [("strconv.ErrRange", Rows.laid_strconv_ErrRange)] from by kernel_rfl, MakeChecks.laidMetH_plain _ _ _ (by kernel_rfl)] at h1
    exact iface_of_head (ti := 122) (by kernel_rfl) (by kernel_rfl) (by kernel_rfl) h1
  have hg : ∀ b, b < NB → b < W.heap.size ∧ GL b W.heap[b]? := by
    obtain ⟨h0, c, t, fr, hc, hcm⟩ := cell_block hm
    obtain ⟨t4, fr4, u4, v4, h4⟩ := heS
    obtain ⟨t5, fr5, u5, v5, h5⟩ := heR
    have hs4 := (Array.getElem?_eq_some_iff.1 h4).1
    have hs5 := (Array.getElem?_eq_some_iff.1 h5).1
    unfold Lib.TabIs World.var? at htab
    rw [show Tryz.prog.globalNamed "internal/strconv.uint64pow10" = some 5 by kernel_rfl] at htab
    simp only [Option.bind_some] at htab
    split at htab
    · rename_i cs t1 fr1 hc1
      have hs1 := (Array.getElem?_eq_some_iff.1 hc1).1
      intro b hb
      have hb6 : b < 6 := hb
      refine ⟨by omega, ?_, ?_, ?_⟩
      · intro e; subst e; exact ⟨c, t, fr, m, hc, hcm⟩
      · intro e; subst e; exact ⟨t1, fr1, by rw [hc1, Option.some.inj htab]⟩
      · rintro (e | e)
        · subst e; exact ⟨_, t4, fr4, .iface u4 v4, h4, rfl, .inr ⟨u4, v4, rfl⟩⟩
        · subst e; exact ⟨_, t5, fr5, .iface u5 v5, h5, rfl, .inr ⟨u5, v5, rfl⟩⟩
    · cases htab
  have hval : ∀ (j : Nat) t v, Tryz.f3.params[j]? = some t → args[j]? = some v → Value.okWide Tryz.prog W .any base t v := hval0
  refine law_post (rs := types) (bt := 4) (by kernel_rfl) (by kernel_rfl) (fun t ht => ?_) Tryz.underlying4 (by kernel_rfl) rfl (fun ds hds => ?_) hW hval (fun l has => ?_) hg
  · rw [Tryz.params3] at ht
    simp at ht
    first
      | (subst ht; exact ⟨by simp [types], by kernel_rfl, of_decide_eq_true (by kernel_rfl)⟩)
      | (rcases ht with rfl | rfl <;> exact ⟨by simp [types], by kernel_rfl, of_decide_eq_true (by kernel_rfl)⟩)
      | (rcases ht with rfl | rfl | rfl <;> exact ⟨by simp [types], by kernel_rfl, of_decide_eq_true (by kernel_rfl)⟩)
      | (rcases ht with rfl | rfl | rfl | rfl <;> exact ⟨by simp [types], by kernel_rfl, of_decide_eq_true (by kernel_rfl)⟩)
      | (rcases ht with rfl | rfl | rfl | rfl | rfl <;> exact ⟨by simp [types], by kernel_rfl, of_decide_eq_true (by kernel_rfl)⟩)
      | (rcases ht with rfl | rfl | rfl | rfl | rfl | rfl <;> exact ⟨by simp [types], by kernel_rfl, of_decide_eq_true (by kernel_rfl)⟩)
  · rw [← Array.length_toList, Tryz.params3] at hds
    match ds, hds with
    | [d0], _ => exact ⟨rfl, rfl, rfl⟩
  · rw [Tryz.params3] at has
    cases has with
    | cons h0 has =>
      cases has
      obtain ⟨n0, h0⟩ := h0
      rw [if_pos (by decide)] at h0
      obtain ⟨as0, rfl, h0⟩ := h0
      obtain ⟨s0, rfl, k0⟩ := TRequest.sh _ _ h0
      exact A.law_vars k0 _

set_option maxHeartbeats 4000000 in
theorem facts : joinedFacts Tryz.pinned.checked.prog 3 Tryz.f3 Rows.fnExactRequestVarsSpec Rows.fnExactRequestVarsRow = true := by
  unfold joinedFacts
  rw [Closed.heard, Closed.enter, Closed.lifts, Closed.make]
  simp only [Bool.and_eq_true]
  iterate 6 (refine ⟨?_, by as_aux_lemma => kernel_rfl⟩)
  refine ⟨⟨?_, trivial⟩, trivial⟩
  iterate 23 (refine ⟨?_, by as_aux_lemma => kernel_rfl⟩)
  kernel_rfl
theorem named : Tryz.pinned.checked.prog.funcNamed Rows.fnExactRequestVarsRow.func = some 3 := by kernel_rfl
theorem inst : Tryz.f3.isInstance Tryz.pinned.checked.prog Rows.fnExactRequestVarsRow.origin Rows.fnExactRequestVarsRow.targs := of_decide_eq_true (by kernel_rfl)
theorem wrap : Tryz.f3.isWrapper Tryz.pinned.checked.prog Rows.fnExactRequestVarsRow.wrapper Rows.fnExactRequestVarsRow.mainSum := by
  unfold Func.isWrapper
  first
    | (rw [if_pos (by decide +kernel)]; kernel_rfl)
    | (rw [if_neg (by decide +kernel)]; exact ⟨rfl, rfl⟩)

theorem over : Rows.fnExactRequestVarsRow.holds Tryz.pinned (OpenSpec.ofChange Rows.fnExactRequestVarsSpec) :=
  OpenClaim.holds_of_wide 3 Tryz.f3 rfl rfl rfl rfl rfl rfl rfl ⟨rfl, rfl, rfl, rfl, rfl⟩ rfl rfl rfl rfl rfl named Tryz.func3 facts inst wrap
    (fun os started H enc _ => lifted os started H enc)

theorem row : Rows.FnExactRequestVarsSaid := over
/-- THE STATEMENT -/
theorem proved : Rows.FnExactRequestVarsCardSaid :=
  Claim7.holds_tied_plain_at .later [] [.data, .data, .data, .data, .sentinel, .sentinel, .pinned] true Rows.fnExactRequestVarsCard.stood.harness true row (fun _ h => by cases h) (by kernel_rfl) (fun _ h => by cases h) fnExactRequestVars_row_tie rfl ⟨rfl, rfl⟩ (by kernel_rfl) rfl
    (fun f fn hf hfn => by
      obtain rfl : f = 3 := Option.some.inj (named.symm.trans hf) |>.symm
      obtain rfl : fn = Tryz.f3 := (Option.some.inj (Tryz.func3.symm.trans hfn)).symm
      exact ⟨by kernel_rfl, fun j t ht => by
        rw [Tryz.params3] at ht
        have hm : t ∈ [24] := by simpa using Array.mem_of_getElem? ht
        have hall : ([24].all fun u => !Tryz.prog.wantsStandIn u) = true := by kernel_rfl
        exact (show Tryz.prog.wantsStandIn t = false by simpa using List.all_eq_true.1 hall t hm)⟩)
    (by kernel_rfl)
#print axioms proved
end Go.Proofs.YtmhmaokbicgmbaaGreatDoor.fnExactRequestVars
