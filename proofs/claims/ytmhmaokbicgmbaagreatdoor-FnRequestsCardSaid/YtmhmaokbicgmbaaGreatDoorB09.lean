import Derived.Test.YtmhmaokbicgmbaaGreatDoorB08

/-
  RequestVars of the program: pairArray, RequestVars. No condition.
-/




namespace Go.Proofs.YtmhmaokbicgmbaaGreatDoor
namespace A
set_option linter.unusedVariables false
set_option linter.unusedSimpArgs false
set_option maxRecDepth 100000

theorem implArr_fn : Fnc Tryz.prog 61 [] (.agg (vrow 0 .nsl)) := by
  refine fn_of c61 (by simp [F61]) fun c => ?_
  unfold F61
  simp [putA]
  exact fin_plain ⟨rfl, rfl⟩
theorem implTxt_fn (l : List UInt8) : Fnc Tryz.prog 64 [.str l] (.agg (txV l).enc) := by
  refine fn_of c64 (by simp [F64]) fun c => ?_
  unfold F64
  simp [putA]
  exact fin_plain ⟨rfl, rfl⟩
theorem putKey_con {tv j : Nat} {a : PArr} {v : AV} {T : List AObj} (hT : ItemsAt a.1 j v T) (hl : a.1.length ≤ 1048576) {k : TKey} {x : TVal0} (hk : -1000000000 ≤ k.Num ∧ k.Num ≤ 1000000000) (hn : 0 ≤ a.2 ∧ a.2 ≤ 1000000001) (c : Nat) :
    Con Tryz.prog 62 [.ptr 0 tv 5 0 0, .agg k.enc, .agg x.enc] (⟨false, tv, 5, [vrow a.2 v]⟩ :: T) c (PutQ tv (putE a k x)) := by
  obtain ⟨ys, n⟩ := a
  rcases hT with ⟨h1, h2, h3⟩ | ⟨t, h2, h3⟩
  · have h1 : ys = [] := h1
    subst h1; subst h2; subst h3
    exact putKey_nil hk hn c
  · subst h2; subst h3
    exact con_ren (putKey_ref hl hk hn c) (.cons ren_vrow (.cons (.refl _ _) .nil))
theorem items_free {ys : List TEntry} {j : Nat} {v : AV} {T : List AObj} (h : ItemsAt ys j v T) : ∀ o, o ∈ T → ∀ U, AvRows U o := by
  rcases h with ⟨_, _, h⟩ | ⟨t, _, h⟩
  · subst h; intro o ho; cases ho
  · subst h
    intro o ho U
    rw [List.mem_singleton.1 ho]
    exact avRows_free fun row hr a ha => by
      obtain ⟨x, _, rfl⟩ := List.mem_map.1 hr
      exact (TEntry.flat x a ha).2
theorem free_key (k : TKey) : Free (.agg k.enc) := free_agg fun a ha => by
  simp [TKey.enc] at ha
  rcases ha with rfl | rfl | rfl
  · exact free_bool _
  · exact free_int _ _
  · exact free_str _
theorem free_val0 (x : TVal0) : Free (.agg x.enc) := free_agg fun a ha => by
  simp [TVal0.enc] at ha
  rcases ha with rfl | rfl | rfl | rfl | rfl
  · exact free_int _ _
  · exact free_int _ _
  · exact free_str _
  · exact free_int _ _
  · exact free_nsl
theorem row_free {tv j : Nat} {n : Int} {ys : List TEntry} {v : AV} {T : List AObj} (h : ItemsAt ys j v T) : ∀ U, AvRows U ⟨false, tv, 5, [vrow n v]⟩ := fun U => avRows_free fun row hr a ha => by
  rw [List.mem_singleton.1 hr] at ha
  simp [vrow] at ha
  rcases ha with rfl | rfl | rfl | rfl | rfl
  · exact free_int _ _
  · exact free_int _ _
  · exact free_str _
  · exact free_int _ _
  · rcases h with ⟨_, h, _⟩ | ⟨t, h, _⟩
    · rw [h]; exact free_nsl
    · rw [h]; exact fun T => .ref
def TValue.encO (s : TValue) : List AV := [.int .i64 s.Kind, .int .i64 s.Num, .str s.Str, .int .i64 s.Next, s.Items.ref 8]
def TValue.inn (s : TValue) : List AObj := s.Items.wood 8 TEntry.enc noInn
@[simp] theorem TValue.lenO (s : TValue) : s.encO.length = 5 := (rfl)
theorem TValue.freeO : ∀ (x : TValue) a, a ∈ x.encO → Free a := fun x a ha => by
  simp [TValue.encO] at ha
  rcases ha with rfl | rfl | rfl | rfl | rfl
  · exact free_int _ _
  · exact free_int _ _
  · exact free_str _
  · exact free_int _ _
  · exact free_ref _ _
theorem TValue.freeI : ∀ (x : TValue) o, o ∈ x.inn → ∀ T, AvRows T o := fun x o ho => flat_free TEntry.flat _ _ o ho
/-- An array of a list of pairs. -/
def arrV (l : List TPair) : TValue := ⟨4, 0, [], (arrP l).2, .mk 0 (arrP l).1⟩
def SmP (l : List TPair) : Prop := l.length ≤ 1048576 ∧ ∀ x, x ∈ l → x.Name.length ≤ 1048576
/-- A call that is handed some of the objects; what stands behind them is let go. -/
theorem call_tailD {P : Program} {K : AV → List AObj → Nat → Prop} {f : Nat} {l l' : List AV} {a : AObj} {B C : List AObj} {c : Nat} {Q : AV → List AObj → Nat → Prop} (hf : Con P f l' B c Q) (hv : Views [] l l')
    (k : ∀ r B' c', c ≤ c' → Q r B' c' → Av [] r ∧ (∀ o, o ∈ B' → AvRows [] o) ∧ K r (a :: B') c') : CallW P f l (a :: (B ++ C)) c K := by
  intro hn hlt
  obtain ⟨h1, h2⟩ := hv.spec
  have e : tags (a :: (B ++ C)) = a.tag :: (tags B ++ tags C) := by simp [tags]
  have hna : a.tag ∉ tags B := fun hm => (List.nodup_cons.1 (e ▸ hn)).1 (List.mem_append_left _ hm)
  refine ⟨B, [], l', Q, (List.sublist_append_left B C).cons _, by simp, by simp [tags], h1, h2, hf, fun r B' c' hc hq ho hd => ?_⟩
  obtain ⟨k1, k2, k3⟩ := k r B' c' hc hq
  refine ⟨a :: B', r, fun o h => ?_, List.nodup_cons.2 ⟨fun hm => hna (ho _ (hlt _ (by simp [tags])) hm), hd⟩, .refl r, k1, fun o _ h => k2 o h, k3⟩
  rcases List.mem_cons.1 h with rfl | h
  · exact .inr ⟨by simp, hna⟩
  · exact .inl h
theorem put_avail {tv : Nat} {a : PArr} {r : AV} {O : List AObj} {c : Nat} (h : PutQ tv a r O c) : Av [] r ∧ ∀ o, o ∈ O → AvRows [] o := by
  obtain ⟨h1, v', T', h2, h3⟩ := h
  subst h1; subst h3
  refine ⟨.tup fun j a ha => by simp at ha, fun o ho => ?_⟩
  rcases List.mem_cons.1 ho with rfl | ho
  · exact row_free h2 _
  · exact items_free h2 o ho _
theorem pairArray_con {s : SL TPair} (hs : SmP s.list) (c : Nat) : Con Tryz.prog 31 [s.av 2 TPair.enc] [] c fun r O _ => ∃ b : TValue, r = .agg b.encO ∧ O = b.inn ∧ b.con = (arrV s.list).con := by
  obtain ⟨hl, hsn⟩ := hs
  refine con_of c31 (by simp [F31]) ?_
  unfold F31
  simp
  refine call_fn0 implArr_fn (free_agg (by simp [vrow]; exact ⟨free_int _ _, free_int _ _, free_str _, free_int _ _, free_nsl⟩) _) fun tv _ => ?_
  simp
  refine loop_drop s.list.length (fun i e H c' => e 2 = .ptr 0 c 5 0 0 ∧ e 3 = .ptr 1 tv 5 0 0 ∧ e 7 = s.av 2 TPair.enc ∧ e 8 = .int .i64 s.list.length ∧ e 9 = .int .i64 i ∧ ∃ (j : Nat) (v : AV) (T : List AObj), ItemsAt (arrP (s.list.take i)).1 j v T ∧
    H = ⟨false, c, 5, [[.int .i64 0, .int .i64 0, .str [], .int .i64 0, .nsl]]⟩ :: ⟨false, tv, 5, [vrow (arrP (s.list.take i)).2 v]⟩ :: T) ⟨rfl, rfl, rfl, rfl, rfl, 0, .nsl, [], .inl ⟨rfl, rfl, rfl⟩, rfl⟩ ?_
  intro i e H c' hi ⟨e2, e3, e7, e8, e9, j, v, T, hT, hH⟩ N hN
  subst hH
  obtain ⟨b0, b1, b2⟩ := arrP_bnd (s.list.take i)
  have hli : (arrP (s.list.take i)).1.length ≤ 1048576 := by
    have : (s.list.take i).length ≤ s.list.length := by simp; omega
    omega
  by_cases h : i < s.list.length
  · have hx : s.list[i]? = some s.list[i] := List.getElem?_eq_getElem h
    have hst := arrP_step s.list h
    have hxn := hsn _ (List.getElem_mem h)
    generalize s.list[i] = x at hx hst hxn
    have hkb := tKey_bnd x.Name
    have next : ∀ {r : AV} {B' : List AObj} {c2 : Nat}, PutQ tv (putE (arrP (s.list.take i)) (tKey x.Name) (txV x.Value)) r B' c2 → ∃ (j : Nat) (v : AV) (T : List AObj), ItemsAt (arrP (s.list.take (i + 1))).1 j v T ∧ B' = ⟨false, tv, 5, [vrow (arrP (s.list.take (i + 1))).2 v]⟩ :: T := fun ⟨_, v', T', h1, h2⟩ => by
      rw [hst]; exact ⟨1, v', T', h1, h2⟩
    have hcon := fun c => putKey_con (tv := tv) hT hli (k := tKey x.Name) (x := txV x.Value) hkb ⟨b0, b1⟩ c
    rcases hT with ⟨h1, h2, h3⟩ | ⟨t, h2, h3⟩
    · subst h2; subst h3
      simp [e2, e3, e7, e8, e9, h, getW_of hx]
      refine call_fn0 (implKey_fn hxn) (free_key _ _) fun _ _ => ?_
      simp [e2, e3, e7, e8, e9, h]
      refine call_fn0 (implTxt_fn x.Value) (free_val0 _ _) fun _ _ => ?_
      simp [e2, e3, e7, e8, e9, h]
      refine call_tailD (B := [_]) (C := [_]) (hcon _) (.cons .namep (Views.refl _ _)) fun r B' c2 _ hq => ?_
      obtain ⟨q1, q2⟩ := put_avail hq
      obtain ⟨j', v', T', h4, h5⟩ := next hq
      subst h5
      refine ⟨q1, q2, ?_⟩
      simp [e2, e3, e7, e8, e9, h]
      exact hN _ _ _ _ h (List.Sublist.refl _) ⟨by simp [upd, e2], by simp [upd, e3], by simp [upd, e7], by simp [upd, e8], by simp [upd]; exact step64 (by unfold mx; omega) h, j', v', T', h4, rfl⟩
    · subst h2; subst h3
      simp [e2, e3, e7, e8, e9, h, getW_of hx]
      refine call_fn0 (implKey_fn hxn) (free_key _ _) fun _ _ => ?_
      simp [e2, e3, e7, e8, e9, h]
      refine call_fn0 (implTxt_fn x.Value) (free_val0 _ _) fun _ _ => ?_
      simp [e2, e3, e7, e8, e9, h]
      refine call_tailD (B := [_, _]) (C := [_]) (hcon _) (.cons .namep (Views.refl _ _)) fun r B' c2 _ hq => ?_
      obtain ⟨q1, q2⟩ := put_avail hq
      obtain ⟨j', v', T', h4, h5⟩ := next hq
      subst h5
      refine ⟨q1, q2, ?_⟩
      simp [e2, e3, e7, e8, e9, h]
      exact hN _ _ _ _ h (List.Sublist.refl _) ⟨by simp [upd, e2], by simp [upd, e3], by simp [upd, e7], by simp [upd, e8], by simp [upd]; exact step64 (by unfold mx; omega) h, j', v', T', h4, rfl⟩
  · have hie : i = s.list.length := by omega
    subst hie
    rw [List.take_length] at hT b0 b1 b2 hli ⊢
    generalize ha : arrP s.list = a at hT
    obtain ⟨ys, n⟩ := a
    rcases hT with ⟨h1, h2, h3⟩ | ⟨t, h2, h3⟩
    · have h1 : ys = [] := h1
      subst h1; subst h2; subst h3
      simp [e2, e3, e7, e8, e9]
      exact fin_sub (List.nil_sublist _) (.refl _) ⟨⟨4, 0, [], n, .nil⟩, rfl, rfl, by simp [TValue.con, arrV, ha, SL.pcon]⟩
    · subst h2; subst h3
      simp [e2, e3, e7, e8, e9]
      refine fin_sub (Hk := [⟨false, t, 8, ys.map TEntry.enc⟩]) (v' := .agg (TValue.encO ⟨4, 0, [], n, .mk t ys⟩)) (.cons _ (.cons _ (.cons_cons _ .slnil))) ?_ ⟨⟨4, 0, [], n, .mk t ys⟩, rfl, (flat_wood ..).symm, by simp [TValue.con, arrV, ha, SL.pcon]⟩
      exact .agg rfl (fun j a ha => by
        match j, ha with
        | 0, ha => simp [TValue.encO] at ha; subst ha; rfl
        | 1, ha => simp [TValue.encO] at ha; subst ha; rfl
        | 2, ha => simp [TValue.encO] at ha; subst ha; rfl
        | 3, ha => simp [TValue.encO] at ha; subst ha; rfl
        | 4, ha => simp [TValue.encO] at ha; subst ha; rfl
        | j + 5, ha => simp [TValue.encO] at ha) fun j a a' h1 h2 => by
        match j, h1, h2 with
        | 0, h1, h2 => simp [vrow] at h1; simp [TValue.encO] at h2; subst h1; subst h2; exact .refl _
        | 1, h1, h2 => simp [vrow] at h1; simp [TValue.encO] at h2; subst h1; subst h2; exact .refl _
        | 2, h1, h2 => simp [vrow] at h1; simp [TValue.encO] at h2; subst h1; subst h2; exact .refl _
        | 3, h1, h2 => simp [vrow] at h1; simp [TValue.encO] at h2; subst h1; subst h2; exact .refl _
        | 4, h1, h2 => simp [vrow] at h1; simp [TValue.encO] at h2; subst h1; subst h2; exact .name
        | j + 5, h1, h2 => simp [vrow] at h1
def nGet : List UInt8 := [103, 101, 116]
def nCookie : List UInt8 := [99, 111, 111, 107, 105, 101]
/-- The bindings of a request. -/
def varsP (x : TRequest) : List TBinding := if isReq x then [⟨nGet, arrV x.Query.list⟩, ⟨nCookie, arrV x.Cookies.list⟩] else []
@[simp] theorem putB (n : List UInt8) (b : TValue) : putA (putA [.str [], .int .i64 0, .int .i64 0, .str [], .int .i64 0, .nsl] 0 [.str n]) 1 b.encO = (TBinding.mk n b).encO := (rfl)
@[simp] theorem putBl (n : List UInt8) (b : TValue) : (putA (putA [.str [], .int .i64 0, .int .i64 0, .str [], .int .i64 0, .nsl] 0 [.str n]) 1 b.encO).length = 6 := (rfl)
@[simp] theorem putBk (n : List UInt8) : (putA [.str [], .int .i64 0, .int .i64 0, .str [], .int .i64 0, .nsl] 0 [.str n]).length = 6 := (rfl)
def VarsRaw (x : TRequest) (r : AV) (O : List AObj) : Prop :=
  (isReq x = false ∧ r = .nsl ∧ O = []) ∨ (isReq x = true ∧ ∃ (b1 b2 : TValue) (i t : Nat), r = .ref i t 6 2 ∧ O = b1.inn ++ (b2.inn ++ [⟨false, t, 6, [(TBinding.mk nGet b1).encO, (TBinding.mk nCookie b2).encO]⟩]) ∧ b1.con = (arrV x.Query.list).con ∧ b2.con = (arrV x.Cookies.list).con)
theorem impl_varsRaw {x : TRequest} (hx : x.ok) (h1 : SmP x.Query.list) (h2 : SmP x.Cookies.list) (c : Nat) : Con Tryz.prog 8 [.agg x.enc] [] c fun r O _ => VarsRaw x r O := by
  refine con_of c8 (by simp [F8]) ?_
  unfold F8
  simp
  refine call_fn0 (impl_isReq hx) .bool fun _ _ => ?_
  cases hr : isReq x
  · simp
    exact fin_sub (List.nil_sublist _) (.refl _) (.inl ⟨hr, rfl, rfl⟩)
  have hm2 : 2 ≤ mx := by decide
  simp
  refine ⟨⟨?_, ?_⟩, ?_⟩
  all_goals
    refine call_new (pairArray_con h1 _) (Views.refl _ _) fun r1 O1 c1 hc1 ⟨b1, e1, hO1, q1⟩ _ _ => ?_
    subst e1; subst hO1
    refine ⟨_, .refl _, free_agg (TValue.freeO b1) _, fun o ho => TValue.freeI b1 o ho _, ?_⟩
    simp [hm2]
    refine call_new (pairArray_con h2 _) (Views.refl _ _) fun r2 O2 c2 hc2 ⟨b2, e2, hO2, q2⟩ _ _ => ?_
    subst e2; subst hO2
    refine ⟨_, .refl _, free_agg (TValue.freeO b2) _, fun o ho => TValue.freeI b2 o ho _, ?_⟩
    simp [hm2]
    exact fin_sub (List.sublist_cons_self _ _) (.refl _) (.inr ⟨hr, b1, b2, _, _, rfl, rfl, q1, q2⟩)
def VarsQ (x : TRequest) (r : AV) (O : List AObj) : Prop := ∃ b : SL TBinding, r = b.ref 6 ∧ O = b.wood 6 TBinding.encO TBinding.inn ∧ b.list.map TBinding.con = (varsP x).map TBinding.con
theorem impl_vars {x : TRequest} (hx : x.ok) (h1 : SmP x.Query.list) (h2 : SmP x.Cookies.list) (c : Nat) : Con Tryz.prog 8 [.agg x.enc] [] c fun r O _ => VarsQ x r O :=
  Con.fin (con_perm (Q' := fun r O _ => ∃ r', View [] r r' ∧ VarsQ x r' O) (impl_varsRaw hx h1 h2 c) fun r O c' h => by
    rcases h with ⟨hr, e1, e2⟩ | ⟨hr, b1, b2, i, t, e1, e2, q1, q2⟩
    · exact ⟨[], [], List.nil_sublist _, .refl _, _, .refl _, .nil, e1, rfl, by simp [varsP, hr]⟩
    · refine ⟨O, (SL.mk t [⟨nGet, b1⟩, ⟨nCookie, b2⟩]).wood 6 TBinding.encO TBinding.inn, .refl _, ?_, .ref 0 t 6 2, by rw [e1]; exact .name, .mk t [⟨nGet, b1⟩, ⟨nCookie, b2⟩], rfl, rfl, ?_⟩
      · rw [e2]
        refine perm_cnt fun p => ?_
        show List.countP p (⟨false, t, 6, [(TBinding.mk nGet b1).encO, (TBinding.mk nCookie b2).encO]⟩ :: (b1.inn ++ (b2.inn ++ []))) = _
        simp only [List.countP_append, List.countP_cons, List.countP_nil, List.append_nil]
        omega
      · simp [varsP, hr, TBinding.con, q1, q2]) fun r O c' _ ⟨r', hv, hq⟩ _ _ => fin_sub (.refl _) hv hq
theorem vars_tr {f : Nat} {x : TRequest} {args : List AV} (h : ∀ c, Con Tryz.prog f args [] c fun r O _ => VarsQ x r O) :
    Tr Tryz.prog f args fun _ r => ∃ b : SL TBinding, r = b.av 6 TBinding.enc ∧ b.list.map TBinding.con = (varsP x).map TBinding.con :=
  tr_of h fun c r O c' _ ⟨b, h1, h2, h3⟩ ht => ⟨b.av 6 TBinding.enc, by rw [h1]; exact view_OBinding fun o ho => h2 ▸ ho, ⟨b, rfl, h3⟩, by
    subst h2
    cases b with
    | nil => exact from_nsl c
    | mk t l =>
      refine from_slc (ht t (by simp [SL.wood, wood, tags])) fun row hr a ha => ?_
      obtain ⟨y, hy, rfl⟩ := List.mem_map.1 hr
      simp [TBinding.enc] at ha
      rcases ha with rfl | rfl | rfl | rfl | rfl | rfl
      · simp
      · simp
      · simp
      · simp
      · simp
      · refine flat_from TEntry.flat fun u hu => ht u ?_
        obtain ⟨o, ho, rfl⟩ := of_mem_tags hu
        exact mem_tags (by simp only [SL.wood, wood]; exact List.mem_cons_of_mem _ (List.mem_flatMap.2 ⟨y, hy, ho⟩))⟩
end A
end Go.Proofs.YtmhmaokbicgmbaaGreatDoor

/-
  RequestVars of the reference. No condition.
-/

namespace Go.Proofs.YtmhmaokbicgmbaaGreatDoor
namespace A
set_option linter.unusedVariables false
set_option linter.unusedSimpArgs false
set_option maxRecDepth 100000

theorem specArr_fn : Fnc Tryz.prog 55 [] (.agg (vrow 0 .nsl)) := by
  refine fn_of c55 (by simp [F55]) fun c => ?_
  unfold F55
  simp [putA]
  exact fin_plain ⟨rfl, rfl⟩
theorem specTxt_fn (l : List UInt8) : Fnc Tryz.prog 57 [.str l] (.agg (txV l).enc) := by
  refine fn_of c57 (by simp [F57]) fun c => ?_
  unfold F57
  simp [putA]
  exact fin_plain ⟨rfl, rfl⟩
theorem specMax_fn (a b : Int) : Fnc Tryz.prog 88 [.int .i64 a, .int .i64 b] (.int .i64 (if a < b then b else a)) := by
  refine fn_of c88 (by simp [F88]) fun c => ?_
  unfold F88
  by_cases h : a < b
  · simp [h]
    exact fin_plain ⟨rfl, rfl⟩
  · simp [h]
    exact fin_plain ⟨rfl, rfl⟩
theorem l5Find_fn {n : Int} {s : SL TEntry} {k : TKey} (hn : s.list.length ≤ mx) : Fnc Tryz.prog 86 [.agg (vrow n (s.av 8 TEntry.enc)), .agg k.enc] (.int .i64 (fdI s.list k)) := by
  refine fn_of c86 (by simp [F86]) fun c => ?_
  unfold F86
  simp
  refine loop_drop s.list.length (fun i e H c' => e 2 = .ptr 0 c 5 0 0 ∧ e 3 = .ptr 1 (c + 1) 3 0 0 ∧ e 5 = .int .i64 i ∧ fdN k (s.list.take i) = i ∧ H = [⟨false, c, 5, [vrow n (s.av 8 TEntry.enc)]⟩, ⟨false, c + 1, 3, [k.enc]⟩]) ⟨rfl, rfl, rfl, rfl, rfl⟩ ?_
  intro i e H c' hi ⟨e2, e3, e5, hf, hH⟩ N hN
  subst hH
  by_cases h : i < s.list.length
  · have hx : s.list[i]? = some s.list[i] := List.getElem?_eq_getElem h
    generalize s.list[i] = x at hx
    simp [e2, e3, e5, h, getW_of hx, -beqW'_agg]
    by_cases he : x.Key = k
    · simp [e2, e3, e5, he, -beqW'_agg]
      exact fin_plain ⟨by rw [fd_hitI hx hf he], rfl⟩
    · simp [e2, e3, e5, he, -beqW'_agg]
      exact hN _ _ _ _ h (List.Sublist.refl _) ⟨by simp [upd, e2], by simp [upd, e3], by simp [upd]; exact step64 hn h, fdN_step hx hf he, rfl⟩
  · have hie : i = s.list.length := by omega
    subst hie
    simp [e2, e3, e5]
    exact fin_plain ⟨by rw [fd_endI hf], rfl⟩
def SetQ (a : PArr) (r : AV) (O : List AObj) : Prop := ∃ t, r = .agg (vrow a.2 (.ref 0 t 8 a.1.length)) ∧ O = [⟨false, t, 8, a.1.map TEntry.enc⟩]
theorem view_vrow {n : Int} {i j t m : Nat} {S : List AObj} : View S (.agg (vrow n (.ref i t 8 m))) (.agg (vrow n (.ref j t 8 m))) :=
  .agg rfl (fun q a ha => by
    match q, ha with
    | 0, ha => simp [vrow] at ha; subst ha; rfl
    | 1, ha => simp [vrow] at ha; subst ha; rfl
    | 2, ha => simp [vrow] at ha; subst ha; rfl
    | 3, ha => simp [vrow] at ha; subst ha; rfl
    | 4, ha => simp [vrow] at ha; subst ha; rfl
    | q + 5, ha => simp [vrow] at ha) fun q a a' h1 h2 => by
    match q, h1, h2 with
    | 0, h1, h2 => simp [vrow] at h1 h2; subst h1; subst h2; exact .refl _
    | 1, h1, h2 => simp [vrow] at h1 h2; subst h1; subst h2; exact .refl _
    | 2, h1, h2 => simp [vrow] at h1 h2; subst h1; subst h2; exact .refl _
    | 3, h1, h2 => simp [vrow] at h1 h2; subst h1; subst h2; exact .refl _
    | 4, h1, h2 => simp [vrow] at h1 h2; subst h1; subst h2; exact .name
    | q + 5, h1, h2 => simp [vrow] at h1
set_option maxHeartbeats 1000000 in
theorem l6Set_con {n : Int} {s : SL TEntry} {k : TKey} {x : TVal0} (hl : s.list.length ≤ 1048576) (hk : -1000000000 ≤ k.Num ∧ k.Num ≤ 1000000000) (hn : 0 ≤ n ∧ n ≤ 1000000001) (c : Nat) :
    Con Tryz.prog 56 [.agg (vrow n (s.av 8 TEntry.enc)), .agg k.enc, .agg x.enc] [] c fun r O _ => SetQ (putE (s.list, n) k x) r O := by
  refine con_of c56 (by simp [F56]) ?_
  unfold F56
  have hm1 : s.list.length * 96 ≤ 140737488355328 := by omega
  have hm2 : s.list.length ≤ mx := by unfold mx; omega
  have hm3 : (s.list.length + 1) * 96 ≤ 140737488355328 := by omega
  have hm4 : s.list.length + 1 ≤ mx := by unfold mx; omega
  have hm5 : 1 ≤ mx := by decide
  have hm6 : (s.list.length : Int) < (s.list.length : Int) + 1 := by omega
  have hw : IntKind.i64.wrap (k.Num + 1) = k.Num + 1 := wrap64 (by omega) (by omega)
  simp [hm1, hm2]
  refine call_fn0 (l5Find_fn (n := n) (s := s) (k := k) hm2) .int fun _ _ => ?_
  have hle := fdN_le k s.list
  have fin : ∀ {ys : List TEntry} {m i t c len : Nat} {n' : Int} {H : List AObj}, ys.length = len → putE (s.list, n) k x = (ys, n') → [(⟨false, t, 8, ys.map TEntry.enc⟩ : AObj)].Sublist H → finW (fun r O _ => SetQ (putE (s.list, n) k x) r O) (.agg (vrow n' (.ref i t 8 len))) H c := fun {ys m i t c len n' H} h1 h2 h3 => by
    subst h1
    rw [h2]
    exact fin_sub h3 view_vrow ⟨t, rfl, rfl⟩
  by_cases hf : fdN k s.list < s.list.length
  · have hp : putE (s.list, n) k x = (s.list.set (fdN k s.list) ⟨k, x⟩, n) := by simp [putE, hf]
    have hfi : fdI s.list k = (fdN k s.list : Int) := by unfold fdI; rw [if_pos hf]
    obtain ⟨e, he, hek⟩ := fdN_key hf
    simp [hfi, hf, getW_of he]
    rw [set_enc he hek]
    exact fin (m := 0) (by simp) hp (.cons _ (.cons _ (.cons _ (.cons _ (.cons _ (.cons_cons _ (List.nil_sublist _)))))))
  · have hp : putE (s.list, n) k x = (s.list ++ [⟨k, x⟩], nextP n k) := by simp [putE, hf]
    have hfi : fdI s.list k = -1 := by unfold fdI; rw [if_neg hf]
    simp [hfi, hm3, hm4, hm5, hm6, hw]
    refine ⟨fun ht => ?_, fun ht => ?_⟩
    · refine call_fn0 (specMax_fn _ _) .int fun _ _ => ?_
      simp
      rw [nextP_F ht] at hp
      exact fin (m := 0) (by simp) hp (.cons _ (.cons _ (.cons _ (.cons _ (.cons _ (by rw [List.map_append]; exact .cons_cons _ (List.nil_sublist _)))))))
    · rw [nextP_T ht] at hp
      exact fin (m := 0) (by simp) hp (.cons _ (.cons _ (.cons _ (.cons _ (.cons _ (by rw [List.map_append]; exact .cons_cons _ (List.nil_sublist _)))))))
theorem l6Set_tr {n : Int} {s : SL TEntry} {k : TKey} {x : TVal0} (hl : s.list.length ≤ 1048576) (hk : -1000000000 ≤ k.Num ∧ k.Num ≤ 1000000000) (hn : 0 ≤ n ∧ n ≤ 1000000001) :
    Tr Tryz.prog 56 [.agg (vrow n (s.av 8 TEntry.enc)), .agg k.enc, .agg x.enc] fun _ r => ∃ b : SL TEntry, r = .agg (vrow (putE (s.list, n) k x).2 (b.av 8 TEntry.enc)) ∧ b.list = (putE (s.list, n) k x).1 :=
  tr_of (l6Set_con hl hk hn) fun c r O c' _ ⟨t, h1, h2⟩ ht => ⟨.agg (vrow (putE (s.list, n) k x).2 ((SL.mk t (putE (s.list, n) k x).1).av 8 TEntry.enc)), by rw [h1]; exact vrow_view (by rw [h2]; simp), ⟨_, rfl, rfl⟩, from_agg fun a ha => by
    simp [vrow] at ha
    rcases ha with rfl | rfl | rfl | rfl | rfl
    · simp
    · simp
    · simp
    · simp
    · exact flat_from TEntry.flat fun u hu => ht u (by rw [h2]; rw [flat_wood] at hu; exact hu)⟩
theorem from_vrow {c : Nat} {n : Int} {v : AV} (h : From c (.agg (vrow n v))) : From c v := from_agg_mem h v (by simp [vrow])
theorem from_vrow' {c : Nat} {n : Int} {v : AV} (h : From c v) : From c (.agg (vrow n v)) := from_agg fun a ha => by
  simp [vrow] at ha
  rcases ha with rfl | rfl | rfl | rfl | rfl
  · simp
  · simp
  · simp
  · simp
  · exact h
theorem l36Array_tr {s : SL TPair} (hs : SmP s.list) : Tr Tryz.prog 28 [s.av 2 TPair.enc] fun _ r => ∃ b : TValue, r = .agg b.enc ∧ b.con = (arrV s.list).con := by
  obtain ⟨hl, hsn⟩ := hs
  intro c
  refine con_of c28 (by simp [F28]) ?_
  unfold F28
  simp
  refine call_fn0 specArr_fn (free_agg (by simp [vrow]; exact ⟨free_int _ _, free_int _ _, free_str _, free_int _ _, free_nsl⟩) _) fun tv htv => ?_
  simp
  refine loop_drop s.list.length (fun i e H c' => c ≤ c' ∧ e 0 = s.av 2 TPair.enc ∧ e 2 = .ptr 0 c 5 0 0 ∧ e 3 = .ptr 1 tv 5 0 0 ∧ e 4 = .int .i64 i ∧ ∃ b : SL TEntry, b.list = (arrP (s.list.take i)).1 ∧ From c (b.av 8 TEntry.enc) ∧
    H = [⟨false, c, 5, [[.int .i64 0, .int .i64 0, .str [], .int .i64 0, .nsl]]⟩, ⟨false, tv, 5, [vrow (arrP (s.list.take i)).2 (b.av 8 TEntry.enc)]⟩]) ⟨by omega, rfl, rfl, rfl, rfl, .nil, rfl, from_nsl c, rfl⟩ ?_
  intro i e H c' hi ⟨hc', e0, e2, e3, e4, b, hb, hfr, hH⟩ N hN
  subst hH
  obtain ⟨b0, b1, b2⟩ := arrP_bnd (s.list.take i)
  have hli : b.list.length ≤ 1048576 := by
    have : (s.list.take i).length ≤ s.list.length := by simp; omega
    rw [hb]; omega
  by_cases h : i < s.list.length
  · have hx : s.list[i]? = some s.list[i] := List.getElem?_eq_getElem h
    have hst := arrP_step s.list h
    have hxn := hsn _ (List.getElem_mem h)
    generalize s.list[i] = x at hx hst hxn
    have hkb := tKey_bnd x.Name
    generalize ha : arrP (s.list.take i) = a at *
    obtain ⟨ys, n⟩ := a
    have hb : b.list = ys := hb
    simp [e0, e2, e3, e4, h, getW_of hx]
    refine call_fn0 (specKey_fn (by unfold mx; omega)) (free_key _ _) fun _ h1 => ?_
    simp [e0, e2, e3, e4, h, getW_of hx]
    refine call_fn0 (specTxt_fn x.Value) (free_val0 _ _) fun _ h2 => ?_
    simp [e0, e2, e3, e4, h]
    refine call_tree0 (l6Set_tr (s := b) hli hkb ⟨b0, b1⟩) fun r c3 h3 ⟨b', e1, q1⟩ hf => ?_
    subst e1
    rw [hb] at q1 hf ⊢
    simp [e0, e2, e3, e4, h]
    exact hN _ _ _ _ h (List.Sublist.refl _) ⟨by omega, by simp [upd, e0], by simp [upd, e2], by simp [upd, e3], by simp [upd]; exact step64 (by unfold mx; omega) h, b', by rw [hst]; exact q1, (from_vrow hf).mono (by omega), by rw [hst]⟩
  · have hie : i = s.list.length := by omega
    subst hie
    rw [List.take_length] at hb
    rw [List.take_length]
    simp [e0, e2, e3, e4]
    exact fin_plain ⟨rfl, ⟨⟨4, 0, [], (arrP s.list).2, b⟩, rfl, by simp [TValue.con, arrV, SL.pcon, hb]⟩, from_vrow' hfr⟩
@[simp] theorem putBt (n : List UInt8) (b : TValue) : putA (putA [.str [], .int .i64 0, .int .i64 0, .str [], .int .i64 0, .nsl] 0 [.str n]) 1 b.enc = (TBinding.mk n b).enc := (rfl)
@[simp] theorem putBtl (n : List UInt8) (b : TValue) : (putA (putA [.str [], .int .i64 0, .int .i64 0, .str [], .int .i64 0, .nsl] 0 [.str n]) 1 b.enc).length = 6 := (rfl)
theorem from_val {c : Nat} {b : TValue} (h : From c (.agg b.enc)) : From c (b.Items.av 8 TEntry.enc) := from_agg_mem h _ (by simp [TValue.enc])
theorem spec_vars {x : TRequest} (hx : x.ok) (h1 : SmP x.Query.list) (h2 : SmP x.Cookies.list) : Tr Tryz.prog 6 [.agg x.enc] fun _ r => ∃ b : SL TBinding, r = b.av 6 TBinding.enc ∧ b.list.map TBinding.con = (varsP x).map TBinding.con := by
  intro c
  refine con_of c6 (by simp [F6]) ?_
  unfold F6
  simp
  refine call_fn0 (spec_isReq hx) .bool fun _ hc0 => ?_
  have hm2 : 2 ≤ mx := by decide
  cases hr : isReq x
  · simp
    exact fin_slc (rows := []) (i := 1) rfl rfl (by simp) ⟨rfl, ⟨.mk _ [], rfl, by simp [varsP, hr]⟩, from_slc (by omega) (by simp)⟩
  simp
  refine ⟨⟨?_, ?_⟩, ?_⟩
  all_goals
    refine call_tree0 (l36Array_tr h1) fun r1 c1 hc1 ⟨b1, e1, q1⟩ f1 => ?_
    subst e1
    simp [hm2]
    refine call_tree0 (l36Array_tr h2) fun r2 c2 hc2 ⟨b2, e2, q2⟩ f2 => ?_
    subst e2
    simp [hm2]
    refine fin_slc (rows := [(TBinding.mk nGet b1).enc, (TBinding.mk nCookie b2).enc]) (i := 1) rfl rfl ?_ ⟨rfl, ⟨.mk _ [⟨nGet, b1⟩, ⟨nCookie, b2⟩], rfl, by simp [varsP, hr, TBinding.con, q1, q2]⟩, from_slc (by omega) ?_⟩
    · intro row hrow a ha
      simp at hrow
      rcases hrow with rfl | rfl <;> exact TBinding.cells _ a ha
    · intro row hrow a ha
      simp at hrow
      rcases hrow with rfl | rfl
      · simp [TBinding.enc] at ha
        rcases ha with rfl | rfl | rfl | rfl | rfl | rfl
        · simp
        · simp
        · simp
        · simp
        · simp
        · exact (from_val f1).mono (by omega)
      · simp [TBinding.enc] at ha
        rcases ha with rfl | rfl | rfl | rfl | rfl | rfl
        · simp
        · simp
        · simp
        · simp
        · simp
        · exact (from_val f2).mono (by omega)
end A
end Go.Proofs.YtmhmaokbicgmbaaGreatDoor

/-
  Arrays of texts out of pairs: what they hold under a key, and that they are well formed (plain). No condition.
-/

namespace Go.Proofs.YtmhmaokbicgmbaaGreatDoor
namespace A
set_option linter.unusedVariables false
set_option linter.unusedSimpArgs false

/-- The value of the last pair under a key. -/
def valF (K : TKey) (o : Option (List UInt8)) (p : TPair) : Option (List UInt8) := if tKey p.Name = K then some p.Value else o
def valP (l : List TPair) (K : TKey) : Option (List UInt8) := l.foldl (valF K) none
def getE (es : List TEntry) (K : TKey) : Option TVal0 := (es[fdN K es]?).map TEntry.Val
theorem fdN_keys (K : TKey) : ∀ {a b : List TEntry}, a.map TEntry.Key = b.map TEntry.Key → fdN K a = fdN K b
  | [], [], _ => rfl
  | [], _ :: _, h => by simp at h
  | _ :: _, [], h => by simp at h
  | x :: a, y :: b, h => by
    simp only [List.map_cons, List.cons.injEq] at h
    rw [fdN, fdN, h.1, fdN_keys K h.2]
theorem set_keys {es : List TEntry} {i : Nat} {e e' : TEntry} (h : es[i]? = some e) (hk : e'.Key = e.Key) : (es.set i e').map TEntry.Key = es.map TEntry.Key := by
  rw [List.map_set, hk]
  refine List.ext_getElem? fun j => ?_
  obtain ⟨hl, rfl⟩ := List.getElem?_eq_some_iff.1 h
  by_cases hj : j = i
  · subst hj
    rw [List.getElem?_set_self (by simpa using hl)]
    simp [hl]
  · rw [List.getElem?_set_ne (by omega)]
theorem get_put (a : PArr) (k : TKey) (x : TVal0) (K : TKey) : getE (putE a k x).1 K = if k = K then some x else getE a.1 K := by
  unfold putE
  split
  · rename_i hf
    obtain ⟨e, he, hek⟩ := fdN_key hf
    have hkeys := set_keys (e' := ⟨k, x⟩) he hek.symm
    unfold getE
    show ((a.1.set _ _)[fdN K (a.1.set _ _)]?).map _ = _
    rw [fdN_keys K hkeys]
    by_cases hK : k = K
    · subst hK
      rw [if_pos rfl, List.getElem?_set_self hf]; rfl
    · rw [if_neg hK]
      by_cases hj : fdN K a.1 = fdN k a.1
      · exfalso
        have h1 : fdN K a.1 < a.1.length := by rw [hj]; exact hf
        obtain ⟨e2, he2, hek2⟩ := fdN_key h1
        rw [hj, he] at he2
        cases he2
        exact hK (hek.symm.trans hek2)
      · rw [List.getElem?_set_ne (fun h => hj h.symm)]
  · rename_i hf
    have hle := fdN_le k a.1
    have hke : fdN k a.1 = a.1.length := by omega
    unfold getE
    show ((a.1 ++ [_])[fdN K (a.1 ++ [_])]?).map _ = _
    rw [fdN_app]
    by_cases hK : k = K
    · subst hK
      rw [if_pos rfl, if_neg hf, fdN, if_pos rfl, Nat.add_zero, List.getElem?_append_right (Nat.le_refl _)]
      simp
    · rw [if_neg hK]
      split
      · rename_i h1
        rw [List.getElem?_append_left h1]
      · rename_i h1
        have hle2 := fdN_le K a.1
        rw [fdN, if_neg hK, fdN, List.getElem?_eq_none (by simp), List.getElem?_eq_none (by omega)]
theorem get_fold (K : TKey) : ∀ (l : List TPair) (a : PArr) (o : Option (List UInt8)), getE a.1 K = o.map txV → getE (l.foldl (fun a p => putE a (tKey p.Name) (txV p.Value)) a).1 K = (l.foldl (valF K) o).map txV
  | [], a, o, h => h
  | p :: l, a, o, h => by
    rw [List.foldl_cons, List.foldl_cons]
    refine get_fold K l _ _ ?_
    rw [get_put]
    unfold valF
    by_cases hp : tKey p.Name = K
    · rw [if_pos hp, if_pos hp]; rfl
    · rw [if_neg hp, if_neg hp]; exact h
theorem get_arr (l : List TPair) (K : TKey) : getE (arrP l).1 K = (valP l K).map txV := get_fold K l ([], 0) none rfl

/-! ### well formed -/
def KeyOk (k : TKey) : Prop := (k.Text = false → -1000000000 ≤ k.Num ∧ k.Num ≤ 1000000000 ∧ k.Str = []) ∧ (k.Text = true → k.Num = 0 ∧ k.Str.length ≤ 64 ∧ sgS k.Str = none)
theorem tKey_ok {l : List UInt8} (h : l.length ≤ 64) : KeyOk (tKey l) := by
  unfold tKey
  cases hs : sgS l with
  | none => exact ⟨fun h => by simp at h, fun _ => ⟨rfl, h, hs⟩⟩
  | some n =>
    have := sgS_bnd hs
    exact ⟨fun _ => ⟨this.1, this.2, rfl⟩, fun h => by simp at h⟩
structure WFa (a : PArr) : Prop where
  n0 : 0 ≤ a.2
  n1 : a.2 ≤ 1000000001
  at_ : ∀ (i : Nat) (e : TEntry), a.1[i]? = some e → fdN e.Key a.1 = i ∧ KeyOk e.Key ∧ (e.Key.Text = false → e.Key.Num < a.2) ∧ ∃ v, e.Val = txV v ∧ v.length ≤ 64
theorem WFa.put {a : PArr} (h : WFa a) {k : TKey} (hk : KeyOk k) {v : List UInt8} (hv : v.length ≤ 64) : WFa (putE a k (txV v)) := by
  have hkn : -1000000000 ≤ k.Num ∧ k.Num ≤ 1000000000 := by
    cases ht : k.Text with
    | false => exact ⟨(hk.1 ht).1, (hk.1 ht).2.1⟩
    | true => have := (hk.2 ht).1; omega
  obtain ⟨b0, b1, _⟩ := putE_bnd (x := txV v) hkn.2 h.n0 h.n1
  refine ⟨b0, b1, fun i e he => ?_⟩
  unfold putE at he ⊢
  split at he
  · rename_i hf
    rw [if_pos hf]
    obtain ⟨e0, he0, hek⟩ := fdN_key hf
    have hkeys := set_keys (e' := ⟨k, txV v⟩) he0 hek.symm
    show fdN e.Key (a.1.set _ _) = i ∧ _
    rw [fdN_keys e.Key hkeys]
    by_cases hi : i = fdN k a.1
    · subst hi
      have he : (a.1.set (fdN k a.1) ⟨k, txV v⟩)[fdN k a.1]? = some e := he
      rw [List.getElem?_set_self hf] at he
      cases he
      obtain ⟨q1, q2, q3, q4⟩ := h.at_ _ _ he0
      refine ⟨rfl, hk, fun ht => ?_, v, rfl, hv⟩
      rw [hek] at q3
      exact q3 ht
    · have he : (a.1.set (fdN k a.1) ⟨k, txV v⟩)[i]? = some e := he
      rw [List.getElem?_set_ne (fun h => hi h.symm)] at he
      exact h.at_ i e he
  · rename_i hf
    rw [if_neg hf]
    have he : (a.1 ++ [⟨k, txV v⟩])[i]? = some e := he
    have hle := fdN_le k a.1
    show fdN e.Key (a.1 ++ [_]) = i ∧ _
    rcases Nat.lt_or_ge i a.1.length with hi | hi
    · rw [List.getElem?_append_left hi] at he
      obtain ⟨q1, q2, q3, q4⟩ := h.at_ i e he
      refine ⟨by rw [fdN_app, q1, if_pos hi], q2, fun ht => ?_, q4⟩
      have := q3 ht
      show _ < nextP a.2 k
      unfold nextP
      split
      · exact this
      · split <;> omega
    · rw [List.getElem?_append_right hi] at he
      have hi0 : i - a.1.length = 0 := by
        have := (List.getElem?_eq_some_iff.1 he).1
        simp at this; omega
      rw [hi0] at he
      simp at he
      subst he
      refine ⟨?_, hk, fun ht => ?_, v, rfl, hv⟩
      · show fdN k (a.1 ++ [_]) = i
        rw [fdN_app, if_neg hf, fdN, if_pos rfl]; omega
      · show k.Num < nextP a.2 k
        have ht : k.Text = false := ht
        unfold nextP
        rw [ht]
        simp only [Bool.false_eq_true, if_false]
        split <;> omega
theorem wf_arr {l : List TPair} (h : ∀ p, p ∈ l → p.Name.length ≤ 64 ∧ p.Value.length ≤ 64) : WFa (arrP l) := by
  have key : ∀ (l : List TPair) (a : PArr), WFa a → (∀ p, p ∈ l → p.Name.length ≤ 64 ∧ p.Value.length ≤ 64) → WFa (l.foldl (fun a p => putE a (tKey p.Name) (txV p.Value)) a) := by
    intro l
    induction l with
    | nil => intro a ha _; exact ha
    | cons p l ih =>
      intro a ha hl
      rw [List.foldl_cons]
      have hp := hl p (by simp)
      exact ih _ (ha.put (tKey_ok hp.1) hp.2) fun q hq => hl q (List.mem_cons_of_mem _ hq)
  exact key l _ ⟨by simp, by simp, fun i e he => by simp at he⟩ h
end A
end Go.Proofs.YtmhmaokbicgmbaaGreatDoor

/-
  Arrays of texts looked at by the reference: weight, well-formedness, keys, names. No condition.
-/


namespace Go.Proofs.YtmhmaokbicgmbaaGreatDoor
namespace A
set_option linter.unusedVariables false
set_option linter.unusedSimpArgs false
set_option maxRecDepth 100000

theorem free_b (b : Bool) {T : List Nat} : Av T (.bool b) := .bool
@[simp] theorem txV_Kind (v : List UInt8) : (txV v).Kind = 3 := (rfl)
@[simp] theorem txV_Num (v : List UInt8) : (txV v).Num = 0 := (rfl)
@[simp] theorem txV_Str (v : List UInt8) : (txV v).Str = v := (rfl)
@[simp] theorem txV_Next (v : List UInt8) : (txV v).Next = 0 := (rfl)
theorem weigh0_fn (v : List UInt8) (m : Int) : Fnc Tryz.prog 83 [.agg (txV v).enc, .int .i64 m] (.int .i64 1) := by
  refine fn_of c83 (by simp [F83]) fun c => ?_
  unfold F83
  simp
  refine loop_drop 0 (fun i e H c' => e 2 = .ptr 0 c 5 0 0 ∧ e 5 = .int .i64 1 ∧ H = [⟨false, c, 5, [(txV v).enc]⟩]) ⟨rfl, rfl, rfl⟩ ?_
  intro i e H c' hi ⟨e2, e5, hH⟩ N hN
  subst hH
  simp [e2, e5]
  exact fin_plain ⟨rfl, rfl⟩
theorem weighA_fn {n : Int} {s : SL TEntry} (hv : ∀ x, x ∈ s.list → ∃ v, x.Val = txV v) (hn : s.list.length ≤ 100) : Fnc Tryz.prog 83 [.agg (vrow n (s.av 8 TEntry.enc)), .int .i64 200] (.int .i64 (1 + s.list.length)) := by
  refine fn_of c83 (by simp [F83]) fun c => ?_
  unfold F83
  simp
  refine loop_drop s.list.length (fun i e H c' => e 1 = .int .i64 200 ∧ e 2 = .ptr 0 c 5 0 0 ∧ e 5 = .int .i64 (1 + i) ∧ e 6 = .int .i64 i ∧ H = [⟨false, c, 5, [vrow n (s.av 8 TEntry.enc)]⟩]) ⟨rfl, rfl, rfl, rfl, rfl⟩ ?_
  intro i e H c' hi ⟨e1, e2, e5, e6, hH⟩ N hN
  subst hH
  by_cases h : i < s.list.length
  · have hx : s.list[i]? = some s.list[i] := List.getElem?_eq_getElem h
    obtain ⟨v, hxv⟩ := hv _ (List.getElem_mem h)
    generalize s.list[i] = x at hx hxv
    have h2 : (1 : Int) + (i : Int) ≤ 200 := by omega
    have w1 : IntKind.i64.wrap (1 + (i : Int) + 1) = 1 + ((i + 1 : Nat) : Int) := by rw [wrap64 (by omega) (by omega)]; omega
    have w2 : IntKind.i64.wrap ((i : Int) + 1) = ((i + 1 : Nat) : Int) := by rw [wrap64 (by omega) (by omega)]; rfl
    simp [e1, e2, e5, e6, h, h2, getW_of hx, hxv]
    refine call_fn0 (weigh0_fn v _) .int fun _ _ => ?_
    simp [e1, e2, e5, e6, h, h2, w1, w2, -Int.natCast_add]
    exact hN _ _ _ _ h (List.Sublist.refl _) ⟨by simp [upd, e1], by simp [upd, e2], by simp [upd, -Int.natCast_add], by simp [upd, -Int.natCast_add], rfl⟩
  · have hie : i = s.list.length := by omega
    subst hie
    simp [e1, e2, e5, e6]
    exact fin_plain ⟨rfl, rfl⟩
theorem plain0_fn (v : List UInt8) : Fnc Tryz.prog 50 [.agg (txV v).enc] (.bool true) := by
  refine fn_of c50 (by simp [F50]) fun c => ?_
  unfold F50
  simp
  refine call_fn0 (l1In_fn _ _ _) .bool fun _ _ => ?_
  have : inR 3 0 3 = true := by decide
  simp [this]
  exact fin_plain ⟨rfl, rfl⟩
theorem plainA_fn {n : Int} {s : SL TEntry} (hv : ∀ x, x ∈ s.list → ∃ v, x.Val = txV v) (hn : s.list.length ≤ 100) : Fnc Tryz.prog 50 [.agg (vrow n (s.av 8 TEntry.enc))] (.bool true) := by
  refine fn_of c50 (by simp [F50]) fun c => ?_
  unfold F50
  simp
  refine loop_drop s.list.length (fun i e H c' => e 1 = .ptr 0 c 5 0 0 ∧ e 3 = .int .i64 i ∧ H = [⟨false, c, 5, [vrow n (s.av 8 TEntry.enc)]⟩]) ⟨rfl, rfl, rfl⟩ ?_
  intro i e H c' hi ⟨e1, e3, hH⟩ N hN
  subst hH
  by_cases h : i < s.list.length
  · have hx : s.list[i]? = some s.list[i] := List.getElem?_eq_getElem h
    obtain ⟨v, hxv⟩ := hv _ (List.getElem_mem h)
    generalize s.list[i] = x at hx hxv
    simp [e1, e3, h, getW_of hx, hxv]
    refine call_fn0 (plain0_fn v) .bool fun _ _ => ?_
    simp [e1, e3, h]
    exact hN _ _ _ _ h (List.Sublist.refl _) ⟨by simp [upd, e1], by simp [upd]; exact step64 (by unfold mx; omega) h, rfl⟩
  · have hie : i = s.list.length := by omega
    subst hie
    simp [e1, e3]
    exact fin_plain ⟨rfl, rfl⟩
theorem isKey_fn {k : TKey} (h : KeyOk k) : Fnc Tryz.prog 110 [.agg k.enc] (.bool true) := by
  refine fn_of c110 (by simp [F110]) fun c => ?_
  unfold F110
  cases ht : k.Text with
  | false =>
    obtain ⟨h1, h2, h3⟩ := h.1 ht
    simp [ht]
    refine call_fn0 (l1In_fn _ _ _) .bool fun _ _ => ?_
    have : inR k.Num (-1000000000) 1000000000 = true := by simp [inR]; omega
    simp [this, h3]
    exact fin_plain ⟨rfl, rfl⟩
  | true =>
    obtain ⟨h1, h2, h3⟩ := h.2 ht
    have hl : (k.Str.length : Int) ≤ 400 := by omega
    simp [ht]
    refine call_fn0 (specSigned_fn (by unfold mx; omega)) (free_ib _ _) fun _ _ => ?_
    simp [ht, h1, h3, hl]
    exact fin_plain ⟨rfl, rfl⟩
theorem valid0_fn {v : List UInt8} (hv : v.length ≤ 400) : Fnc Tryz.prog 84 [.agg (txV v).enc] (.bool true) := by
  have hl : (v.length : Int) ≤ 400 := by omega
  refine fn_of c84 (by simp [F84]) fun c => ?_
  unfold F84
  simp [hl]
  exact fin_plain ⟨rfl, rfl⟩
theorem wf_fdI {s : SL TEntry} {n : Int} (h : WFa (s.list, n)) {i : Nat} {e : TEntry} (he : s.list[i]? = some e) : fdI s.list e.Key = i := by
  have h1 := (h.at_ i e he).1
  have h2 := (List.getElem?_eq_some_iff.1 he).1
  unfold fdI
  have h1 : fdN e.Key s.list = i := h1
  rw [h1, if_pos h2]
@[simp] theorem vrow1 (n : Int) (v : AV) (K : AV → Prop) : getW (vrow n v) 1 K = K (.int .i64 0) := by simp [vrow]
@[simp] theorem vrow2 (n : Int) (v : AV) (K : AV → Prop) : getW (vrow n v) 2 K = K (.str []) := by simp [vrow]
theorem validA_fn {n : Int} {s : SL TEntry} (hw : WFa (s.list, n)) (hn : s.list.length ≤ 100) : Fnc Tryz.prog 84 [.agg (vrow n (s.av 8 TEntry.enc))] (.bool true) := by
  refine fn_of c84 (by simp [F84]) fun c => ?_
  unfold F84
  have b0 : 0 ≤ n := hw.n0
  have b1 : n ≤ 1000000001 := hw.n1
  have hin : inR n 0 1000000001 = true := by simp [inR]; omega
  simp
  refine call_fn0 (l1In_fn _ _ _) .bool fun _ _ => ?_
  simp [hin]
  refine loop_drop s.list.length (fun i e H c' => e 1 = .ptr 0 c 5 0 0 ∧ e 3 = .int .i64 i ∧ H = [⟨false, c, 5, [vrow n (s.av 8 TEntry.enc)]⟩]) ⟨rfl, rfl, rfl⟩ ?_
  intro i e H c' hi ⟨e1, e3, hH⟩ N hN
  subst hH
  by_cases h : i < s.list.length
  · have hx : s.list[i]? = some s.list[i] := List.getElem?_eq_getElem h
    generalize s.list[i] = x at hx
    obtain ⟨h1, h2, h3, v, hxv, hvl⟩ := hw.at_ i x hx
    have hfd := wf_fdI hw hx
    simp [e1, e3, h, getW_of hx, hxv]
    refine call_fn0 (isKey_fn h2) .bool fun _ _ => ?_
    cases ht : x.Key.Text with
    | false =>
      have hlt := h3 ht
      have hge : ¬ n ≤ x.Key.Num := by omega
      simp [ht, hge, e1, e3, getW_of hx]
      refine call_fn0 (l5Find_fn (s := s) (by unfold mx; omega)) .int fun _ _ => ?_
      simp [hfd, e1, e3, getW_of hx, hxv]
      refine call_fn0 (valid0_fn (by omega)) .bool fun _ _ => ?_
      simp [e1, e3]
      exact hN _ _ _ _ h (List.sublist_append_left _ _) ⟨by simp [upd, e1], by simp [upd]; exact step64 (by unfold mx; omega) h, rfl⟩
    | true =>
      simp [ht, e1, e3, getW_of hx]
      refine call_fn0 (l5Find_fn (s := s) (by unfold mx; omega)) .int fun _ _ => ?_
      simp [hfd, e1, e3, getW_of hx, hxv]
      refine call_fn0 (valid0_fn (by omega)) .bool fun _ _ => ?_
      simp [e1, e3]
      exact hN _ _ _ _ h (List.sublist_append_left _ _) ⟨by simp [upd, e1], by simp [upd]; exact step64 (by unfold mx; omega) h, rfl⟩
  · have hie : i = s.list.length := by omega
    subst hie
    simp [e1, e3]
    exact fin_plain ⟨rfl, rfl⟩
theorem isVal_fn {n : Int} {s : SL TEntry} (hw : WFa (s.list, n)) (hn : s.list.length ≤ 100) : Fnc Tryz.prog 49 [.agg (vrow n (s.av 8 TEntry.enc))] (.bool true) := by
  have hv : ∀ x, x ∈ s.list → ∃ v, x.Val = txV v := fun x hx => by
    obtain ⟨i, hi, he⟩ := List.mem_iff_getElem.1 hx
    obtain ⟨_, _, _, v, hv, _⟩ := hw.at_ i x (by rw [← he]; exact List.getElem?_eq_getElem hi)
    exact ⟨v, hv⟩
  refine fn_of c49 (by simp [F49]) fun c => ?_
  unfold F49
  have h : (1 : Int) + (s.list.length : Int) ≤ 200 := by omega
  simp
  refine call_fn0 (weighA_fn hv hn) .int fun _ _ => ?_
  simp [h]
  refine call_fn0 (validA_fn hw hn) .bool fun _ _ => ?_
  simp
  exact fin_plain ⟨rfl, rfl⟩

end A
end Go.Proofs.YtmhmaokbicgmbaaGreatDoor

/-
  The cursor of the draws: what its functions may hand back. No condition.
-/


namespace Go.Proofs.YtmhmaokbicgmbaaGreatDoor
namespace A
set_option linter.unusedVariables false
set_option linter.unusedSimpArgs false
set_option maxRecDepth 100000

def encU (n : Int) : List AV := [.int .u8 n]
theorem av_code (s : SL Int) : Av [] (s.av 1 encU) := by
  cases s with
  | nil => exact .nsl
  | mk t l =>
    exact .slc (by simp) fun r j x a hx ha => by
      obtain ⟨n, _, rfl⟩ := List.mem_map.1 (List.mem_of_getElem? hx)
      have := List.mem_of_getElem? ha
      simp [encU] at this; subst this; exact .int

/-- The cursor. -/
def cur (t : Nat) (s : SL Int) (i : Nat) (h : Int) : AObj := ⟨false, t, 3, [[s.av 1 encU, .int .i64 i, .int .i64 h]]⟩
theorem cur_rows (t : Nat) (s : SL Int) (i : Nat) (h : Int) : AvRows [] (cur t s i h) := avRows_of fun row hr a ha => by
  simp [cur] at hr
  subst hr
  simp at ha
  rcases ha with rfl | rfl | rfl
  · exact av_code s
  · exact .int
  · exact .int

/-- A number from 0 to hi, the cursor moved. -/
def NumQ (t : Nat) (s : SL Int) (hi : Int) (r : AV) (O : List AObj) : Prop := ∃ (x : Int) (i : Nat) (h : Int), r = .int .i64 x ∧ 0 ≤ x ∧ x ≤ hi ∧ i ≤ s.list.length ∧ O = [cur t s i h]

/-! The operations on bits, left as0 they are. -/
def andI (a b : Int) : Int := IntKind.i64.wrap ((BitVec.ofInt 64 a &&& BitVec.ofInt 64 b).toNat : Int)
def xorI (a b : Int) : Int := IntKind.i64.wrap ((BitVec.ofInt 64 a ^^^ BitVec.ofInt 64 b).toNat : Int)
def shrI (a b : Int) : Int := a.fdiv (2 ^ (min b.toNat 64))
theorem intW_and (a b : Int) (K : AV → Prop) : intW .and .i64 a b K = K (.int .i64 (andI a b)) := rfl
theorem intW_xor (a b : Int) (K : AV → Prop) : intW .xor .i64 a b K = K (.int .i64 (xorI a b)) := rfl
theorem binW_shr (a b : Int) (K : AV → Prop) : binW .shr (.int .i64 a) (.int .u64 b) K = (0 ≤ b ∧ K (.int .i64 (shrI a b))) := rfl
theorem land255 (a : Int) : 0 ≤ andI a 255 ∧ andI a 255 ≤ 255 := by
  have h : (BitVec.ofInt 64 a &&& BitVec.ofInt 64 255).toNat ≤ 255 := by
    rw [BitVec.toNat_and]
    exact Nat.le_trans Nat.and_le_right (by decide)
  unfold andI
  rw [wrap64 (by omega) (by omega)]
  omega

theorem l1Byte_con {t i : Nat} {h : Int} {s : SL Int} (hi : i ≤ s.list.length) (hn : s.list.length ≤ 1048576) (c : Nat) : Con Tryz.prog 95 [.ptr 0 t 3 0 0] [cur t s i h] c fun r O _ => NumQ t s 255 r O := by
  refine con_of c95 (by simp [F95]) ?_
  unfold F95
  simp [cur, putA, intW_and, intW_xor, binW_shr]
  generalize IntKind.i64.wrap (IntKind.i64.wrap (h * 6364136223846793005) + 1442695040888963407) = h'
  refine ⟨fun hlt => ?_, fun hge => ?_⟩
  · have hb : s.list[i]? = some s.list[i] := List.getElem?_eq_getElem hlt
    generalize s.list[i] = b at hb
    have hst : IntKind.i64.wrap ((i : Int) + 1) = ((i + 1 : Nat) : Int) := by rw [wrap64 (by omega) (by omega)]; omega
    refine ⟨b, hb, ?_⟩
    simp [cur, putA, intW_and, intW_xor, binW_shr, encU, hlt]
    refine fin_all ⟨_, i + 1, h', rfl, (land255 _).1, (land255 _).2, by omega, ?_⟩
    rw [cur, hst]
  · exact fin_all ⟨_, i, h', rfl, (land255 _).1, (land255 _).2, hi, rfl⟩

theorem numQ_next {t : Nat} {s : SL Int} {hi : Int} {r : AV} {O : List AObj} (h : NumQ t s hi r O) : Av [] r ∧ ∀ o, o ∈ O → AvRows [] o := by
  obtain ⟨x, i, h, rfl, _, _, _, rfl⟩ := h
  exact ⟨.int, fun o ho => by simp at ho; subst ho; exact cur_rows t s i h⟩

theorem l1Below_con {t i : Nat} {h n : Int} {s : SL Int} (hi : i ≤ s.list.length) (hn : s.list.length ≤ 1048576) (hw : n ≤ 1000000000000) (c : Nat) :
    Con Tryz.prog 69 [.ptr 0 t 3 0 0, .int .i64 n] [cur t s i h] c fun r O _ => NumQ t s (if n ≤ 0 then 0 else n - 1) r O := by
  refine con_of c69 (by simp [F69]) ?_
  unfold F69
  have modB : 0 < n → ∀ x : Int, 0 ≤ x → 0 ≤ x.tmod n ∧ x.tmod n ≤ n - 1 := fun h0 x hx => by
    have h1 := Int.tmod_nonneg n hx
    have h2 := Int.tmod_lt_of_pos x h0
    omega
  by_cases h0 : n ≤ 0
  · simp [h0]
    exact fin_all ⟨0, i, h, rfl, by omega, by simp [h0], hi, rfl⟩
  have h0' : 0 < n := by omega
  have hne : n ≠ 0 := by omega
  by_cases h1 : n ≤ 256
  · simp [h0, h1]
    refine call_con (l1Byte_con hi hn _) fun r O c1 _ q _ _ => ⟨(numQ_next q).1, (numQ_next q).2, ?_⟩
    obtain ⟨x, i1, h1', rfl, x0, x1, k1, rfl⟩ := q
    simp [h0, h1, hne]
    exact fin_all ⟨_, i1, h1', rfl, (modB h0' x x0).1, (modB h0' x x0).2, k1, rfl⟩
  · simp [h0, h1]
    refine call_con (l1Byte_con hi hn _) fun r O c1 _ q _ _ => ⟨(numQ_next q).1, (numQ_next q).2, ?_⟩
    obtain ⟨x, i1, h1', rfl, x0, x1, k1, rfl⟩ := q
    simp [h0, h1, hne]
    refine call_con (l1Byte_con k1 hn _) fun r O c1 _ q _ _ => ⟨(numQ_next q).1, (numQ_next q).2, ?_⟩
    obtain ⟨y, i2, h2', rfl, y0, y1, k2, rfl⟩ := q
    simp [h0, h1, hne]
    refine call_con (l1Byte_con k2 hn _) fun r O c1 _ q _ _ => ⟨(numQ_next q).1, (numQ_next q).2, ?_⟩
    obtain ⟨z, i3, h3', rfl, z0, z1, k3, rfl⟩ := q
    have w1 : IntKind.i64.wrap (x * 65536) = x * 65536 := wrap64 (by omega) (by omega)
    have w2 : IntKind.i64.wrap (y * 256) = y * 256 := wrap64 (by omega) (by omega)
    have w3 : IntKind.i64.wrap (x * 65536 + y * 256) = x * 65536 + y * 256 := wrap64 (by omega) (by omega)
    have w4 : IntKind.i64.wrap (x * 65536 + y * 256 + z) = x * 65536 + y * 256 + z := wrap64 (by omega) (by omega)
    simp [h0, h1, hne, w1, w2, w3, w4]
    exact fin_all ⟨_, i3, h3', rfl, (modB h0' _ (by omega)).1, (modB h0' _ (by omega)).2, k3, rfl⟩

/-- A bool, the cursor moved. -/
def BoolQ (t : Nat) (s : SL Int) (r : AV) (O : List AObj) : Prop := ∃ (b : Bool) (i : Nat) (h : Int), r = .bool b ∧ i ≤ s.list.length ∧ O = [cur t s i h]
theorem boolQ_next {t : Nat} {s : SL Int} {r : AV} {O : List AObj} (h : BoolQ t s r O) : Av [] r ∧ ∀ o, o ∈ O → AvRows [] o := by
  obtain ⟨x, i, h, rfl, _, rfl⟩ := h
  exact ⟨.bool, fun o ho => by simp at ho; subst ho; exact cur_rows t s i h⟩
/-- A call that is handed the cursor alone, out of more. -/
theorem call_cur {P : Program} {f : Nat} {l : List AV} {t i : Nat} {h : Int} {s : SL Int} {C : List AObj} {c : Nat} {Q : AV → List AObj → Nat → Prop} {K : AV → List AObj → Nat → Prop} (hf : Con P f l [cur t s i h] c Q)
    (k : ∀ r B' c', c ≤ c' → Q r B' c' → tags B' = [t] ∧ Av [] r ∧ (∀ o, o ∈ B' → AvRows [] o) ∧ K r (B' ++ C) c') : CallW P f l (cur t s i h :: C) c K :=
  call_mid (A := []) (B := [cur t s i h]) (C := C) hf (Views.refl _ _) k
theorem numQ_tags {t : Nat} {s : SL Int} {hi : Int} {r : AV} {O : List AObj} (h : NumQ t s hi r O) : tags O = [t] := by
  obtain ⟨x, i, h, rfl, _, _, _, rfl⟩ := h; rfl
theorem call_num {P : Program} {f : Nat} {l : List AV} {t i : Nat} {h hi : Int} {s : SL Int} {C : List AObj} {c : Nat} {K : AV → List AObj → Nat → Prop} (hf : Con P f l [cur t s i h] c fun r O _ => NumQ t s hi r O)
    (k : ∀ (x : Int) (i' : Nat) (h' : Int) (c' : Nat), c ≤ c' → 0 ≤ x → x ≤ hi → i' ≤ s.list.length → K (.int .i64 x) (cur t s i' h' :: C) c') : CallW P f l (cur t s i h :: C) c K :=
  call_cur hf fun r B' c' hc q => ⟨numQ_tags q, (numQ_next q).1, (numQ_next q).2, by
    obtain ⟨x, i', h', rfl, x0, x1, k1, rfl⟩ := q
    exact k x i' h' c' hc x0 x1 k1⟩
theorem call_bool {P : Program} {f : Nat} {l : List AV} {t i : Nat} {h : Int} {s : SL Int} {C : List AObj} {c : Nat} {K : AV → List AObj → Nat → Prop} (hf : Con P f l [cur t s i h] c fun r O _ => BoolQ t s r O)
    (k : ∀ (b : Bool) (i' : Nat) (h' : Int) (c' : Nat), c ≤ c' → i' ≤ s.list.length → K (.bool b) (cur t s i' h' :: C) c') : CallW P f l (cur t s i h :: C) c K :=
  call_cur hf fun r B' c' hc q => ⟨by obtain ⟨x, i, h, rfl, _, rfl⟩ := q; rfl, (boolQ_next q).1, (boolQ_next q).2, by
    obtain ⟨x, i', h', rfl, k1, rfl⟩ := q
    exact k x i' h' c' hc k1⟩

/-- One of a list's, the cursor moved. -/
def OneQ {α : Type} (t : Nat) (s : SL Int) (v : α → AV) (l : List α) (o : AObj) (r : AV) (O : List AObj) : Prop := ∃ (x : α) (i : Nat) (h : Int), r = v x ∧ x ∈ l ∧ i ≤ s.list.length ∧ O = [cur t s i h, o]

theorem l1Str_con {t tl i : Nat} {h : Int} {s : SL Int} {l : List (List UInt8)} (hi : i ≤ s.list.length) (hn : s.list.length ≤ 1048576) (h0 : 0 < l.length) (h1 : l.length ≤ 256) (c : Nat) :
    Con Tryz.prog 67 [.ptr 0 t 3 0 0, .ref 1 tl 1 l.length] [cur t s i h, ⟨false, tl, 1, l.map fun x => [AV.str x]⟩] c fun r O _ => OneQ t s AV.str l ⟨false, tl, 1, l.map fun x => [AV.str x]⟩ r O := by
  refine con_of c67 (by simp [F67]) ?_
  unfold F67
  simp
  refine call_num (l1Below_con hi hn (by omega) _) fun x i' h' c' _ x0 x1 k1 => ?_
  rw [if_neg (by omega)] at x1
  obtain ⟨k, rfl⟩ := Int.eq_ofNat_of_zero_le x0
  have hk : k < l.length := by omega
  have hg : l[k]? = some l[k] := List.getElem?_eq_getElem hk
  have hm := List.getElem_mem hk
  generalize l[k] = y at hg hm
  simp [hk]
  refine ⟨y, hg, ?_⟩
  simp
  exact fin_all ⟨y, i', h', rfl, hm, k1, rfl⟩
end A
end Go.Proofs.YtmhmaokbicgmbaaGreatDoor

/-
  The cursor's making, and the words that are drawn. No condition.
-/

namespace Go.Proofs.YtmhmaokbicgmbaaGreatDoor
namespace A
set_option linter.unusedVariables false
set_option linter.unusedSimpArgs false
set_option maxRecDepth 100000

/-- A text of at most 16 bytes, the cursor moved. -/
def TextQ (t : Nat) (s : SL Int) (r : AV) (O : List AObj) : Prop := ∃ (x : List UInt8) (i : Nat) (h : Int), r = .str x ∧ x.length ≤ 16 ∧ i ≤ s.list.length ∧ O = [cur t s i h]
theorem textQ_next {t : Nat} {s : SL Int} {r : AV} {O : List AObj} (h : TextQ t s r O) : Av [] r ∧ ∀ o, o ∈ O → AvRows [] o := by
  obtain ⟨x, i, h, rfl, _, _, rfl⟩ := h
  exact ⟨.str, fun o ho => by simp at ho; subst ho; exact cur_rows t s i h⟩
theorem call_text {P : Program} {f : Nat} {l : List AV} {t i : Nat} {h : Int} {s : SL Int} {C : List AObj} {c : Nat} {K : AV → List AObj → Nat → Prop} (hf : Con P f l [cur t s i h] c fun r O _ => TextQ t s r O)
    (k : ∀ (x : List UInt8) (i' : Nat) (h' : Int) (c' : Nat), c ≤ c' → x.length ≤ 16 → i' ≤ s.list.length → K (.str x) (cur t s i' h' :: C) c') : CallW P f l (cur t s i h :: C) c K :=
  call_cur hf fun r B' c' hc q => ⟨by obtain ⟨x, i, h, rfl, _, _, rfl⟩ := q; rfl, (textQ_next q).1, (textQ_next q).2, by
    obtain ⟨x, i', h', rfl, x0, k1, rfl⟩ := q
    exact k x i' h' c' hc x0 k1⟩

theorem avrows_str (tl : Nat) (l : List (List UInt8)) : AvRows [] ⟨false, tl, 1, l.map fun x => [AV.str x]⟩ := avRows_of fun row hr a ha => by
  obtain ⟨x, _, rfl⟩ := List.mem_map.1 hr
  simp at ha; subst ha; exact .str
theorem avrows_int (tl : Nat) (l : List Int) : AvRows [] ⟨false, tl, 1, l.map encI⟩ := avRows_of fun row hr a ha => by
  obtain ⟨x, _, rfl⟩ := List.mem_map.1 hr
  simp [encI] at ha; subst ha; exact .int

theorem call_str {t tl i : Nat} {h : Int} {s : SL Int} (l : List (List UInt8)) {c : Nat} {K : AV → List AObj → Nat → Prop} (hi : i ≤ s.list.length) (hn : s.list.length ≤ 1048576) (h0 : 0 < l.length) (h1 : l.length ≤ 256)
    (k : ∀ (x : List UInt8) (i' : Nat) (h' : Int) (c' : Nat), c ≤ c' → x ∈ l → i' ≤ s.list.length → K (.str x) [cur t s i' h', ⟨false, tl, 1, l.map fun x => [AV.str x]⟩] c') :
    CallW Tryz.prog 67 [.ptr 0 t 3 0 0, .ref 1 tl 1 l.length] [cur t s i h, ⟨false, tl, 1, l.map fun x => [AV.str x]⟩] c K :=
  call_con (l1Str_con hi hn h0 h1 c) fun r O c' hc q _ _ => by
    obtain ⟨x, i', h', rfl, hx, k1, rfl⟩ := q
    exact ⟨.str, fun o ho => by
      simp at ho
      rcases ho with rfl | rfl
      · exact cur_rows t s i' h'
      · exact avrows_str tl l, k x i' h' c' hc hx k1⟩
def ids : List (List UInt8) := [[117, 49], [117, 50], [117, 51], [], [97, 32, 98], [117, 52]]
def wrds : List (List UInt8) := [[], [97], [98], [120, 49], [48], [53], [45, 53], [48, 53], [45, 48], [49, 50, 97], [48, 48, 55], [49, 48, 48, 48, 48, 48, 48, 48, 48, 48], [49, 48, 48, 48, 48, 48, 48, 48, 48, 49], [32, 49], [105, 116, 39, 115], [10], [60, 105, 62], [255, 59], [110, 97, 109, 101], [115, 58, 49, 58]]
/-- Any number, the cursor moved. -/
def AnyQ (t : Nat) (s : SL Int) (r : AV) (O : List AObj) : Prop := ∃ (x : Int) (i : Nat) (h : Int), r = .int .i64 x ∧ i ≤ s.list.length ∧ O = [cur t s i h]
theorem call_any {P : Program} {f : Nat} {l : List AV} {t i : Nat} {h : Int} {s : SL Int} {C : List AObj} {c : Nat} {K : AV → List AObj → Nat → Prop} (hf : Con P f l [cur t s i h] c fun r O _ => AnyQ t s r O)
    (k : ∀ (x : Int) (i' : Nat) (h' : Int) (c' : Nat), c ≤ c' → i' ≤ s.list.length → K (.int .i64 x) (cur t s i' h' :: C) c') : CallW P f l (cur t s i h :: C) c K :=
  call_cur hf fun r B' c' hc q => by
    obtain ⟨x, i', h', rfl, k1, rfl⟩ := q
    exact ⟨rfl, .int, fun o ho => by simp at ho; subst ho; exact cur_rows t s i' h', k x i' h' c' hc k1⟩
def odds : List Int := [-1, 0, 1, 2, 255, 256, 65535, 2147483647, 2147483648, 4294967295, 4294967296, -2147483648, 9223372036854775807, -9223372036854775808]
def NewQ (s : SL Int) (r : AV) (O : List AObj) : Prop := ∃ (t : Nat) (h : Int), r = .ptr 0 t 3 0 0 ∧ O = [cur t s 0 h]
theorem l1New_con {s : SL Int} (hn : s.list.length ≤ 1048576) (c : Nat) : Con Tryz.prog 38 [s.av 1 encU] [] c fun r O _ => NewQ s r O := by
  refine con_of c38 (by simp [F38]) ?_
  unfold F38
  simp
  refine loop_drop s.list.length (fun i e H c' => e 0 = s.av 1 encU ∧ e 4 = .int .i64 i ∧ (∃ h : Int, e 3 = .int .i64 h) ∧ H = []) ⟨rfl, rfl, ⟨_, rfl⟩, rfl⟩ ?_
  intro i e H c' hi ⟨e0, e4, ⟨h, e3⟩, hH⟩ N hN
  subst hH
  by_cases hlt : i < s.list.length
  · have hg : s.list[i]? = some s.list[i] := List.getElem?_eq_getElem hlt
    generalize s.list[i] = b at hg
    by_cases h4 : (i : Int) < 4000
    · simp [e0, e3, e4, hlt, h4]
      refine ⟨b, hg, ?_⟩
      simp [e0, e3, e4, encU, intW_and]
      exact hN _ _ _ _ hlt (List.nil_sublist _) ⟨by simp [upd, e0], by simp [upd]; exact step64 (by unfold mx; omega) hlt, ⟨_, by simp [upd]; rfl⟩, rfl⟩
    · simp [e0, e3, e4, hlt, h4, putA]
      exact fin_all ⟨_, h, rfl, rfl⟩
  · simp [e0, e3, e4, hlt, putA]
    exact fin_all ⟨_, h, rfl, rfl⟩

/-- A number below ten, written. -/
theorem fmtDigit {n : Nat} (h : n ≤ 9) : ∃ x : List UInt8, x.length ≤ 16 ∧ Fnc Tryz.prog 111 [.int .i64 n] (.str x) := by
  by_cases h0 : n = 0
  · subst h0
    refine ⟨[48], by decide, fn_of c111 (by simp [F111]) fun c => ?_⟩
    unfold F111
    simp
    exact fin_plain ⟨rfl, rfl⟩
  · refine ⟨[UInt8.ofNat (48 + n)], by simp, fn_of c111 (by simp [F111]) fun c => ?_⟩
    unfold F111
    have hm : ((n : Int).tmod 10) = n := by rw [Int.tmod_eq_emod_of_nonneg (by omega)]; omega
    have hq : ((n : Int).tdiv 10) = 0 := by rw [Int.tdiv_eq_ediv_of_nonneg (by omega)]; omega
    have hn0 : ¬ (n : Int) = 0 := by omega
    have hneg : ¬ (n : Int) < 0 := by omega
    have w0 : IntKind.i64.wrap 0 = 0 := by decide
    have w1 : IntKind.i64.wrap (48 + (n : Int)) = 48 + n := wrap64 (by omega) (by omega)
    simp [h0, hn0]
    refine loop_drop 1 (fun i e H c' => e 0 = .int .i64 n ∧ H = [] ∧ ((i = 0 ∧ e 4 = .int .i64 n ∧ e 3 = .str []) ∨ (i = 1 ∧ e 4 = .int .i64 0 ∧ e 3 = .str [UInt8.ofNat (48 + n)]))) ⟨rfl, rfl, .inl ⟨rfl, rfl, rfl⟩⟩ ?_
    intro i e H c' hi ⟨e0, hH, hc⟩ N hN
    subst hH
    rcases hc with ⟨rfl, e4, e3⟩ | ⟨rfl, e4, e3⟩
    · have hu : IntKind.u8.wrap (48 + (n : Int)) = 48 + n := by
        rcases n with _ | _ | _ | _ | _ | _ | _ | _ | _ | _ | n
        all_goals first | rfl | omega
      simp [e0, e3, e4, h0, hn0, hm, hneg, w1, putA, hq, w0, hu]
      refine toStrW_ref (l := [UInt8.ofNat (48 + n)]) ?_ rfl (by unfold mx; simp) ?_
      · simp [byteRow, UInt8.toNat_ofNat']
        omega
      · simp [e0, e3, e4, hq, w0, h0]
        refine ⟨by unfold mx; omega, hN _ _ _ _ (by omega) (List.nil_sublist _) ⟨?_, rfl, .inr ⟨rfl, ?_, ?_⟩⟩⟩
        · simp [upd, e0]
        · simp [upd]
        · simp [upd]
    · simp [e0, e3, e4, hneg]
      exact fin_plain ⟨rfl, rfl⟩
end A
end Go.Proofs.YtmhmaokbicgmbaaGreatDoor

/-
  Requests that are drawn. No condition.
-/


namespace Go.Proofs.YtmhmaokbicgmbaaGreatDoor
namespace A
set_option linter.unusedVariables false
set_option linter.unusedSimpArgs false
set_option maxRecDepth 100000

/-- A text of at most 64 bytes, the cursor moved. -/
def TxtQ (t : Nat) (s : SL Int) (r : AV) (O : List AObj) : Prop := ∃ (x : List UInt8) (i : Nat) (h : Int), r = .str x ∧ x.length ≤ 64 ∧ i ≤ s.list.length ∧ O = [cur t s i h]
theorem call_txt {P : Program} {f : Nat} {l : List AV} {t i : Nat} {h : Int} {s : SL Int} {C : List AObj} {c : Nat} {K : AV → List AObj → Nat → Prop} (hf : Con P f l [cur t s i h] c fun r O _ => TxtQ t s r O)
    (k : ∀ (x : List UInt8) (i' : Nat) (h' : Int) (c' : Nat), c ≤ c' → x.length ≤ 64 → i' ≤ s.list.length → K (.str x) (cur t s i' h' :: C) c') : CallW P f l (cur t s i h :: C) c K :=
  call_cur hf fun r B' c' hc q => ⟨by obtain ⟨x, i, h, rfl, _, _, rfl⟩ := q; rfl, by obtain ⟨x, i, h, rfl, _, _, rfl⟩ := q; exact .str, by
    obtain ⟨x, i, h, rfl, _, _, rfl⟩ := q
    intro o ho; simp at ho; subst ho; exact cur_rows t s i h, by
    obtain ⟨x, i', h', rfl, x0, k1, rfl⟩ := q
    exact k x i' h' c' hc x0 k1⟩
/-- One of a list's texts, where another object stands between the cursor and the list. -/
theorem call_strW {t tl i : Nat} {h : Int} {s : SL Int} (l : List (List UInt8)) {W : AObj} {c : Nat} {K : AV → List AObj → Nat → Prop} (hi : i ≤ s.list.length) (hn : s.list.length ≤ 1048576) (h0 : 0 < l.length) (h1 : l.length ≤ 256)
    (k : ∀ (x : List UInt8) (i' : Nat) (h' : Int) (c' : Nat), c ≤ c' → x ∈ l → i' ≤ s.list.length → K (.str x) [cur t s i' h', W, ⟨false, tl, 1, l.map fun x => [AV.str x]⟩] c') :
    CallW Tryz.prog 67 [.ptr 0 t 3 0 0, .ref 2 tl 1 l.length] [cur t s i h, W, ⟨false, tl, 1, l.map fun x => [AV.str x]⟩] c K := by
  intro hnd hlt
  have hv : Views [] [AV.ptr 0 t 3 0 0, .ref 2 tl 1 l.length] [.ptr 0 t 3 0 0, .ref 1 tl 1 l.length] := .cons (.refl _) (.cons .name .nil)
  obtain ⟨e1, e2⟩ := hv.spec
  have hd := hnd
  simp only [tags, List.map_cons, List.map_nil, List.nodup_cons, List.mem_cons, List.not_mem_nil, or_false, not_or, List.nodup_nil, and_true] at hd
  obtain ⟨⟨d1, d2⟩, d3, _⟩ := hd
  refine ⟨[cur t s i h, ⟨false, tl, 1, l.map fun x => [AV.str x]⟩], [], _, _, .cons_cons _ (.cons _ (.cons_cons _ .slnil)), by simp, by simp [tags], e1, e2, l1Str_con hi hn h0 h1 c, fun r O c' hc q _ _ => ?_⟩
  obtain ⟨x, i', h', rfl, hx, k1, rfl⟩ := q
  refine ⟨[cur t s i' h', W, ⟨false, tl, 1, l.map fun x => [AV.str x]⟩], _, fun o ho => ?_, hnd, .refl _, .str, fun o ho ho' => ?_, k x i' h' c' hc hx k1⟩
  · simp only [List.mem_cons, List.not_mem_nil, or_false] at ho
    rcases ho with rfl | rfl | rfl
    · exact .inl (by simp)
    · refine .inr ⟨by simp, ?_⟩
      simp only [tags, List.map_cons, List.map_nil, List.mem_cons, List.not_mem_nil, or_false, not_or]
      exact ⟨fun e => d1 e.symm, d3⟩
    · exact .inl (by simp)
  · simp at ho'
    rcases ho' with rfl | rfl
    · exact cur_rows t s i' h'
    · exact avrows_str tl l
/-- A call that moves the cursor and hands objects of its own back. -/
theorem call_curN {P : Program} {f : Nat} {l : List AV} {t i : Nat} {h : Int} {s : SL Int} {C : List AObj} {c : Nat} {Q : AV → List AObj → Nat → Prop} {K : AV → List AObj → Nat → Prop} (hf : Con P f l [cur t s i h] c Q)
    (k : ∀ r O c', c ≤ c' → Q r O c' → ∃ (i' : Nat) (h' : Int) (O' : List AObj) (r' : AV), O = cur t s i' h' :: O' ∧ View [] r r' ∧ Av [] r' ∧ (∀ o, o ∈ O' → AvRows [] o) ∧ K r' (cur t s i' h' :: (C ++ O')) c') : CallW P f l (cur t s i h :: C) c K := by
  intro hnd hlt
  obtain ⟨e1, e2⟩ := (Views.refl [] l).spec
  have hd : t ∉ tags C ∧ (tags C).Nodup := by
    have := List.nodup_cons.1 (show (t :: tags C).Nodup from hnd)
    exact this
  refine ⟨[cur t s i h], [], l, Q, .cons_cons _ (List.nil_sublist _), by simp, by simp [tags], e1, e2, hf, fun r O c' hc q ho hO => ?_⟩
  obtain ⟨i', h', O', r', rfl, k1, k2, k3, k4⟩ := k r O c' hc q
  have hO' : t ∉ tags O' ∧ (tags O').Nodup := List.nodup_cons.1 (show (t :: tags O').Nodup from hO)
  have hnew : ∀ u, u ∈ tags O' → c ≤ u := fun u hu => by
    rcases Nat.lt_or_ge u c with h1 | h1
    · have h2 := ho u h1 (List.mem_cons_of_mem _ hu)
      have h3 : u = t := by simpa [tags, cur] using h2
      exact absurd (h3 ▸ hu) hO'.1
    · exact h1
  refine ⟨cur t s i' h' :: (C ++ O'), r', fun o h => ?_, ?_, k1, k2, fun o h h' => ?_, k4⟩
  · rcases List.mem_cons.1 h with rfl | h
    · exact .inl (by simp)
    · rcases List.mem_append.1 h with h | h
      · refine .inr ⟨List.mem_cons_of_mem _ h, fun hm => ?_⟩
        have h3 : o.tag = t := by simpa [tags, cur] using hm
        exact hd.1 (h3 ▸ mem_tags h)
      · exact .inl (List.mem_cons_of_mem _ h)
  · have e : tags (cur t s i' h' :: (C ++ O')) = t :: (tags C ++ tags O') := by simp [tags, cur]
    rw [e]
    refine List.nodup_cons.2 ⟨fun hm => ?_, List.nodup_append.2 ⟨hd.2, hO'.2, fun u hu v hv e => ?_⟩⟩
    · rcases List.mem_append.1 hm with h | h
      · exact hd.1 h
      · exact hO'.1 h
    · subst e
      exact absurd (hlt u (List.mem_cons_of_mem _ hu)) (Nat.not_lt.2 (hnew u hv))
  · rcases List.mem_cons.1 h' with rfl | h'
    · exact cur_rows t s _ _
    · exact k3 o h'
def paths : List (List UInt8) := [[109, 97, 105, 110], [108, 105, 98, 47, 97], [46, 47, 109, 97, 105, 110], [108, 105, 98, 47, 46, 46, 47, 109, 97, 105, 110], [46, 46, 47, 109, 97, 105, 110], [47, 109, 97, 105, 110], [108, 105, 98, 47, 47, 98], [97, 32, 98], [], [46], [46, 46], [108, 105, 98, 47, 97, 47], [120], [97, 47, 46, 46, 47, 46, 46, 47, 98], [97, 98, 99, 100, 101, 102, 103, 104, 105, 106, 107, 108, 109, 110, 111, 112, 113, 114, 115, 116, 117], [97, 45, 98, 46, 99, 95, 100]]
theorem l22Path_con {t i : Nat} {h : Int} {s : SL Int} (hi : i ≤ s.list.length) (hn : s.list.length ≤ 1048576) (c : Nat) : Con Tryz.prog 70 [.ptr 0 t 3 0 0] [cur t s i h] c fun r O _ => TxtQ t s r O := by
  refine con_of c70 (by simp [F70]) ?_
  unfold F70
  simp [putA]
  refine call_str paths hi hn (by decide) (by decide) fun x i' h' c' _ hx k1 => ?_
  simp
  refine fin_sub (Hk := [cur t s i' h']) ((List.nil_sublist _).cons_cons _) (.refl _) ⟨x, i', h', rfl, ?_, k1, rfl⟩
  exact (by decide : ∀ x, x ∈ paths → x.length ≤ 64) x hx
def bits4 : List (List UInt8) := [[97], [60, 98, 62], [38], [34], [39], [92], [10], [32], [37], [43], [38, 97, 109, 112, 59], [38, 35, 51, 57, 59], [37, 52, 49], [37, 52], [92, 120, 51, 67], [92, 120], [126, 122], [255], [81, 57], [38, 108, 116]]
theorem l4Text_con {t i : Nat} {h : Int} {s : SL Int} (hi : i ≤ s.list.length) (hn : s.list.length ≤ 1048576) (c : Nat) : Con Tryz.prog 94 [.ptr 0 t 3 0 0] [cur t s i h] c fun r O _ => TxtQ t s r O := by
  refine con_of c94 (by simp [F94]) ?_
  unfold F94
  simp
  refine call_num (l1Below_con hi hn (by omega) _) fun x i1 h1 c1 _ x0 x1 k1 => ?_
  rw [if_neg (by omega)] at x1
  obtain ⟨x, rfl⟩ := Int.eq_ofNat_of_zero_le x0
  simp
  refine loop_drop x (fun j e H c' => e 0 = .ptr 0 t 3 0 0 ∧ e 4 = .int .i64 (x - j : Nat) ∧ ∃ (acc : List UInt8) (i : Nat) (h : Int), e 3 = .str acc ∧ acc.length ≤ 5 * j ∧ i ≤ s.list.length ∧ H = [cur t s i h]) ⟨rfl, rfl, [], i1, h1, rfl, by simp, k1, rfl⟩ ?_
  intro j e H c' hj ⟨e0, e4, acc, i2, h2, e3, ha, k2, hH⟩ N hN
  subst hH
  by_cases hd : x - j = 0
  · simp [e0, e3, e4, hd]
    exact fin_sub (.refl _) (.refl _) ⟨acc, i2, h2, rfl, by omega, k2, rfl⟩
  · have hp : 0 < x - j := by omega
    have hw : IntKind.i64.wrap (((x - j : Nat) : Int) - 1) = ((x - (j + 1) : Nat) : Int) := by rw [wrap64 (by omega) (by omega)]; omega
    simp [e0, e3, e4, hp, hd, putA]
    refine call_str bits4 k2 hn (by decide) (by decide) fun y i3 h3 c3 _ hy k3 => ?_
    have hy5 : y.length ≤ 5 := (by decide : ∀ x, x ∈ bits4 → x.length ≤ 5) y hy
    have hmx : acc.length + y.length ≤ mx := by unfold mx; omega
    simp [e0, e3, e4, hp, hd, hmx, hw]
    exact hN _ _ _ _ (by omega) ((List.nil_sublist _).cons_cons _) ⟨by simp [upd, e0], by simp [upd], acc ++ y, i3, h3, by simp [upd], by rw [List.length_append]; omega, k3, rfl⟩
def SmL (l : List TPair) (n : Nat) : Prop := l.length ≤ n ∧ ∀ x, x ∈ l → x.Name.length ≤ 64 ∧ x.Value.length ≤ 64
/-- Pairs that are drawn. -/
def PrsD (t : Nat) (s : SL Int) (r : AV) (O : List AObj) : Prop := ∃ (tq : Nat) (ps : List TPair) (i : Nat) (h : Int), r = .ref 1 tq 2 ps.length ∧ SmL ps 4 ∧ i ≤ s.list.length ∧ O = [cur t s i h, ⟨false, tq, 2, ps.map TPair.enc⟩]
def nms : List (List UInt8) := [[113], [97, 32, 98], [], [53], [120, 38, 121], [105, 100]]
theorem l36Draw_con {t i : Nat} {h : Int} {s : SL Int} (hi : i ≤ s.list.length) (hn : s.list.length ≤ 1048576) (c : Nat) : Con Tryz.prog 68 [.ptr 0 t 3 0 0] [cur t s i h] c fun r O _ => PrsD t s r O := by
  refine con_of c68 (by simp [F68]) ?_
  unfold F68
  simp
  have hm1 : 1 ≤ mx := by decide
  refine call_num (l1Below_con hi hn (by omega) _) fun x i1 h1 c1 _ x0 x1 k1 => ?_
  rw [if_neg (by omega)] at x1
  obtain ⟨x, rfl⟩ := Int.eq_ofNat_of_zero_le x0
  simp
  refine loop_drop x (fun j e H c' => e 0 = .ptr 0 t 3 0 0 ∧ e 4 = .int .i64 (x - j : Nat) ∧ ∃ (tq : Nat) (ps : List TPair) (i : Nat) (h : Int), e 3 = .ref 1 tq 2 ps.length ∧ ps.length = j ∧ SmL ps 4 ∧ i ≤ s.list.length ∧ H = [cur t s i h, ⟨false, tq, 2, ps.map TPair.enc⟩]) ⟨rfl, rfl, _, [], i1, h1, rfl, rfl, ⟨by simp, by simp⟩, k1, rfl⟩ ?_
  intro j e H c' hj ⟨e0, e4, tq, ps, i2, h2, e3, hpl, hps, k2, hH⟩ N hN
  subst hH
  by_cases hd : x - j = 0
  · simp [e0, e3, e4, hd]
    exact fin_sub (.refl _) (.refl _) ⟨tq, ps, i2, h2, rfl, hps, k2, rfl⟩
  · have hp : 0 < x - j := by omega
    have hw : IntKind.i64.wrap (((x - j : Nat) : Int) - 1) = ((x - (j + 1) : Nat) : Int) := by rw [wrap64 (by omega) (by omega)]; omega
    simp [e0, e3, e4, hp, hd, putA]
    refine call_strW nms k2 hn (by decide) (by decide) fun y i3 h3 c3 _ hy k3 => ?_
    have hy5 : y.length ≤ 64 := (by decide : ∀ x, x ∈ nms → x.length ≤ 64) y hy
    simp [e0, e3, e4, hp, hd]
    refine call_txt (l4Text_con k3 hn _) fun z i4 h4 c4 _ hz k4 => ?_
    have hm2 : (ps.length + 1) * 32 ≤ 140737488355328 := by have := hps.1; omega
    have hm3 : ps.length + 1 ≤ mx := by have := hps.1; unfold mx; omega
    simp [e0, e3, e4, hp, hd, hw, hm1, hm2, hm3, putA]
    refine hN _ _ _ _ (by omega) (((List.nil_sublist _).cons_cons _).cons_cons _) ⟨by simp [upd, e0], by simp [upd], c4 + 1, ps ++ [⟨y, z⟩], i4, h4, by simp [upd], by simp [hpl], ⟨by simp; omega, fun u hu => ?_⟩, k4, by simp [TPair.enc]⟩
    rcases List.mem_append.1 hu with h | h
    · exact hps.2 u h
    · rw [List.mem_singleton.1 h]; exact ⟨hy5, hz⟩
def SmReq (x : TRequest) : Prop := x.Path.length ≤ 64 ∧ SmL x.Query.list 5 ∧ SmL x.Cookies.list 5
def ReqD (t : Nat) (s : SL Int) (r : AV) (O : List AObj) : Prop := ∃ (x : TRequest) (i : Nat) (h : Int), r = .agg x.encO ∧ SmReq x ∧ O = cur t s i h :: x.inn
def mains : List (List UInt8) := [[109, 97, 105, 110], [118, 105, 101, 119], [108, 105, 98, 47, 97], [110, 111, 110, 101]]
theorem SmL.le {l : List TPair} {m n : Nat} (h : SmL l m) (hmn : m ≤ n) : SmL l n := ⟨Nat.le_trans h.1 hmn, h.2⟩
theorem pairs_rows (tq : Nat) (ps : List TPair) : AvRows [] ⟨false, tq, 2, ps.map TPair.enc⟩ := avRows_free fun row hr a ha => by
  obtain ⟨x, _, rfl⟩ := List.mem_map.1 hr
  exact (TPair.flat x a ha).2
theorem view_agg {S : List AObj} {l l' : List AV} (h : Views S l l') (hc : ∀ a, a ∈ l' → a.cell = true) : View S (.agg l) (.agg l') := .agg h.spec.1 (fun j a ha => hc a (List.mem_of_getElem? ha)) h.spec.2
theorem l36Request_con {t i : Nat} {h : Int} {s : SL Int} (hi : i ≤ s.list.length) (hn : s.list.length ≤ 1048576) (c : Nat) : Con Tryz.prog 39 [.ptr 0 t 3 0 0] [cur t s i h] c fun r O _ => ReqD t s r O := by
  refine con_of c39 (by simp [F39]) ?_
  unfold F39
  simp [putA]
  have hm1 : 1 ≤ mx := by decide
  refine call_strW mains hi hn (by decide) (by decide) fun p i1 h1 c1 _ hp k1 => ?_
  have hp64 : p.length ≤ 64 := (by decide : ∀ x, x ∈ mains → x.length ≤ 64) p hp
  simp [putA]
  refine call_curN (l36Draw_con k1 hn _) fun r O c2 _ ⟨t1, q, i2, h2, e1, hq, k2, hO⟩ => ⟨i2, h2, _, .ref 3 t1 2 q.length, hO, by rw [e1]; exact .name, .ref, fun o ho => by rw [List.mem_singleton.1 ho]; exact pairs_rows _ _, ?_⟩
  simp [putA]
  refine call_curN (l36Draw_con k2 hn _) fun r O c3 _ ⟨t2, ck, i3, h3, e2, hck, k3, hO⟩ => ⟨i3, h3, _, .ref 4 t2 2 ck.length, hO, by rw [e2]; exact .name, .ref, fun o ho => by rw [List.mem_singleton.1 ho]; exact pairs_rows _ _, ?_⟩
  simp [putA]
  refine call_num (l1Below_con k3 hn (by omega) _) fun x i4 h4 c4 _ x0 x1 k4 => ?_
  rw [if_neg (by omega)] at x1
  have fin : ∀ {p : List UInt8} {q : List TPair} {i t1 n c : Nat} {h : Int} {R S V G : AObj}, p.length ≤ 64 → SmL q 5 → n = q.length → i ≤ s.list.length → ∀ {H : List AObj}, [cur t s i h, ⟨false, t1, 2, q.map TPair.enc⟩, ⟨false, t2, 2, ck.map TPair.enc⟩].Sublist H →
      finW (fun r O _ => ReqD t s r O) (.agg [.str p, .ref 3 t1 2 n, .ref 4 t2 2 ck.length]) H c := fun {p q i t1 n c h R S V G} hp hq hn hi {H} hs => by
    subst hn
    exact fin_sub (v' := .agg (TRequest.encO ⟨p, .mk t1 q, .mk t2 ck⟩)) hs (view_agg (.cons (.refl _) (.cons .name (.cons .name .nil))) (by simp [TRequest.encO])) ⟨⟨p, .mk t1 q, .mk t2 ck⟩, i, h, rfl, ⟨hp, hq, hck.le (by omega)⟩, by simp [TRequest.inn, flat_wood]⟩
  have hs3 : ∀ {a b d e f g : AObj}, [a, d, e].Sublist [a, b, f, d, e, g] := .cons_cons _ (.cons _ (.cons _ (.cons_cons _ (.cons_cons _ (List.nil_sublist _)))))
  have hs4 : ∀ {a b d e f g k : AObj}, [a, d, e].Sublist [a, b, f, d, e, g, k] := .cons_cons _ (.cons _ (.cons _ (.cons_cons _ (.cons_cons _ (List.nil_sublist _)))))
  have o : AObj := ⟨false, 0, 0, []⟩
  by_cases h0 : x = 0
  · simp [h0, putA]
    refine call_txt (l22Path_con k4 hn _) fun y i5 h5 c5 _ hy k5 => ?_
    simp [h0, putA]
    exact fin (R := o) (S := o) (V := o) (G := o) hy (hq.le (by omega)) rfl k5 hs3
  · by_cases h1 : x = 1
    · have hm2 : (q.length + 1) * 32 ≤ 140737488355328 := by have := hq.1; omega
      have hm3 : q.length + 1 ≤ mx := by have := hq.1; unfold mx; omega
      simp [h0, h1, hm1, hm2, hm3, putA]
      refine fin (R := o) (S := o) (V := o) (G := o) (q := q ++ [⟨[48, 49, 50, 51, 52, 53, 54, 55, 56, 57, 48, 49, 50, 51, 52, 53, 54, 55, 56, 57, 48, 49, 50, 51, 52, 53, 54, 55, 56, 57, 48, 49, 50, 51, 52, 53, 54, 55, 56, 57, 48, 49, 50, 51, 52, 53, 54, 55, 56, 57, 48, 49, 50, 51, 52, 53, 54, 55, 56, 57, 48], []⟩]) hp64 ⟨by simp; exact hq.1, fun u hu => ?_⟩ (by simp) k4 (by rw [List.map_append]; exact hs4)
      rcases List.mem_append.1 hu with h | h
      · exact hq.2 u h
      · rw [List.mem_singleton.1 h]; exact ⟨by decide, by decide⟩
    · simp [h0, h1, putA]
      exact fin (R := o) (S := o) (V := o) (G := o) hp64 (hq.le (by omega)) rfl k4 hs3
/-- A call that is handed all objects but the first. -/
theorem call_tail1 {P : Program} {K : AV → List AObj → Nat → Prop} {f : Nat} {l l' : List AV} {a : AObj} {B : List AObj} {c : Nat} {Q : AV → List AObj → Nat → Prop} (hf : Con P f l' B c Q) (hv : Views [] l l')
    (k : ∀ r B' c', c ≤ c' → Q r B' c' → Av [] r ∧ (∀ o, o ∈ B' → AvRows [] o) ∧ K r (a :: B') c') : CallW P f l (a :: B) c K := by
  intro hn hlt
  obtain ⟨h1, h2⟩ := hv.spec
  have hna : a.tag ∉ tags B := (List.nodup_cons.1 hn).1
  refine ⟨B, [], l', Q, List.sublist_cons_self _ _, by simp, by simp [tags], h1, h2, hf, fun r B' c' hc hq ho hd => ?_⟩
  obtain ⟨k1, k2, k3⟩ := k r B' c' hc hq
  refine ⟨a :: B', r, fun o h => ?_, List.nodup_cons.2 ⟨fun hm => hna (ho _ (hlt _ (by simp [tags])) hm), hd⟩, .refl r, k1, fun o _ h => k2 o h, k3⟩
  rcases List.mem_cons.1 h with rfl | h
  · exact .inr ⟨by simp, hna⟩
  · exact .inl h

theorem call_newS {P : Program} {f c : Nat} {l l' : List AV} {H : List AObj} {Q K : AV → List AObj → Nat → Prop} (hf : Con P f l' [] c Q) (hv : Views [] l l')
    (k : ∀ r O c', c ≤ c' → Q r O c' → ∃ r', View [] r r' ∧ Av [] r' ∧ (∀ o, o ∈ O → AvRows [] o) ∧ K r' (H ++ O) c') : CallW P f l H c K := by
  intro hn hlt
  obtain ⟨h1, h2⟩ := hv.spec
  refine ⟨[], [], l', Q, List.nil_sublist _, by simp, by simp [tags], h1, h2, hf, fun r O c' hc hq ho hd => ?_⟩
  have hfresh : ∀ t, t ∈ tags O → c ≤ t := fun t ht => by
    rcases Nat.lt_or_ge t c with h | h
    · have := ho t h ht; simp [tags] at this
    · exact h
  obtain ⟨r', k1, k2, k3, k4⟩ := k r O c' hc hq
  refine ⟨_, r', fun o h => ?_, ?_, k1, k2, fun o _ h => k3 o h, k4⟩
  · rcases List.mem_append.1 h with h | h
    · exact .inr ⟨h, by simp [tags]⟩
    · exact .inl h
  · have : tags (H ++ O) = tags H ++ tags O := by simp [tags]
    rw [this]
    refine List.nodup_append.2 ⟨hn, hd, fun x hx y hy hxy => ?_⟩
    subst hxy
    exact absurd (hlt x hx) (Nat.not_lt.2 (hfresh x hy))
theorem draw_req {s : SL Int} (hn : s.list.length ≤ 1048576) : Tr Tryz.prog 15 [s.av 1 encU] fun _ r => ∃ x : TRequest, r = .agg x.enc ∧ SmReq x := by
  have key : ∀ c, Con Tryz.prog 15 [s.av 1 encU] [] c fun r O _ => ∃ x : TRequest, r = .agg x.encO ∧ O = x.inn ∧ SmReq x := fun c => by
    refine con_of c15 (by simp [F15]) ?_
    unfold F15
    simp
    refine call_newS (l1New_con hn _) (Views.refl _ _) fun r1 O c1 _ ⟨t, h, e1, hO⟩ => ?_
    subst e1; subst hO
    refine ⟨.ptr 1 t 3 0 0, .namep, .ptr, fun o ho => by rw [List.mem_singleton.1 ho]; exact cur_rows t s 0 h, ?_⟩
    simp [putA]
    refine call_tail1 (l36Request_con (Nat.zero_le _) hn _) (.cons .namep .nil) fun r B' c2 _ ⟨x, i', h', e2, hx, hB⟩ => ?_
    subst e2; subst hB
    refine ⟨free_agg (TRequest.freeO x) _, fun o ho => ?_, ?_⟩
    · rcases List.mem_cons.1 ho with rfl | ho
      · exact cur_rows t s i' h'
      · exact TRequest.freeI x o ho _
    simp [putA]
    exact fin_sub (((List.Sublist.refl _).cons _).cons _) (.refl _) ⟨x, rfl, rfl, hx⟩
  exact tr_of key fun c r O c' _ ⟨x, h1, h2, h3⟩ ht => ⟨.agg x.enc, by rw [h1]; exact view_ARequest fun o ho => h2 ▸ ho, ⟨x, rfl, h3⟩, from_agg fun a ha => by
    simp [TRequest.enc] at ha
    rcases ha with rfl | rfl | rfl
    · simp
    · exact flat_from TPair.flat fun u hu => ht u (by rw [h2]; simp [TRequest.inn, tags] at hu ⊢; exact .inl hu)
    · exact flat_from TPair.flat fun u hu => ht u (by rw [h2]; simp [TRequest.inn, tags] at hu ⊢; exact .inr hu)⟩
end A
end Go.Proofs.YtmhmaokbicgmbaaGreatDoor

/-
  Names of the reference: letters, IsName, IsReserved, AreVars. No condition.
-/


namespace Go.Proofs.YtmhmaokbicgmbaaGreatDoor
namespace A
set_option linter.unusedVariables false
set_option linter.unusedSimpArgs false
set_option maxRecDepth 100000

theorem l14Letter_fn {b : UInt8} (h : inR (b.toNat : Int) 97 122 = true) : Fnc Tryz.prog 125 [.int .u8 b.toNat] (.bool true) := by
  have hb : b.toNat < 256 := b.toNat_lt
  have hw : IntKind.i64.wrap (b.toNat : Int) = b.toNat := wrap64 (by omega) (by omega)
  refine fn_of c125 (by simp [F125]) fun c => ?_
  unfold F125
  simp [hw]
  refine call_fn0 (l1In_fn _ _ _) .bool fun _ _ => ?_
  simp [h]
  exact fin_plain ⟨rfl, rfl⟩
theorem l14Name_fn {s : List UInt8} (hs : ∀ b, b ∈ s → inR (b.toNat : Int) 97 122 = true) (hl : s.length ≤ 20) : Fnc Tryz.prog 109 [.str s, .int .i64 0] (.int .i64 s.length) := by
  refine fn_of c109 (by simp [F109]) fun c => ?_
  unfold F109
  simp
  refine loop_drop s.length (fun i e H c' => e 0 = .str s ∧ e 6 = .int .i64 0 ∧ e 5 = .int .i64 i ∧ H = []) ⟨rfl, rfl, rfl, rfl⟩ ?_
  intro i e H c' hi ⟨e0, e1, e3, hH⟩ N hN
  subst hH
  by_cases h : i < s.length
  · have hx : s[i]? = some s[i] := List.getElem?_eq_getElem h
    have hb := hs _ (List.getElem_mem h)
    generalize s[i] = b at hx hb
    simp [e0, e1, e3, h, getW_of hx]
    refine call_fn0 (l14Letter_fn hb) .bool fun _ _ => ?_
    simp [e0, e1, e3, h]
    exact hN _ _ _ _ h (List.Sublist.refl _) ⟨by simp [upd, e0], by simp [upd, e1], by simp [upd]; exact step64 (by unfold mx; omega) h, rfl⟩
  · have hie : i = s.length := by omega
    subst hie
    simp [e0, e1, e3]
    exact fin_plain ⟨rfl, rfl⟩
def resv : List (List UInt8) := [[101, 99, 104, 111], [105, 102], [101, 108, 115, 101], [119, 104, 105, 108, 101], [102, 111, 114, 101, 97, 99, 104], [97, 115], [98, 114, 101, 97, 107], [99, 111, 110, 116, 105, 110, 117, 101], [114, 101, 116, 117, 114, 110], [103, 108, 111, 98, 97, 108], [117, 110, 115, 101, 116], [116, 104, 114, 111, 119], [116, 114, 121], [99, 97, 116, 99, 104], [102, 105, 110, 97, 108, 108, 121], [121, 105, 101, 108, 100], [105, 110, 99, 108, 117, 100, 101], [102, 117, 110, 99, 116, 105, 111, 110], [99, 108, 97, 115, 115], [116, 114, 97, 105, 116], [101, 120, 116, 101, 110, 100, 115], [117, 115, 101], [112, 114, 105, 118, 97, 116, 101], [115, 116, 97, 116, 105, 99], [110, 101, 119], [116, 114, 117, 101], [102, 97, 108, 115, 101], [110, 117, 108, 108]]
theorem resv_len : resv.length = 28 := by decide
theorem isRes_fn {s : List UInt8} (hs : ∀ x, x ∈ resv → x ≠ s) : Fnc Tryz.prog 82 [.str s] (.bool false) := by
  refine fn_of c82 (by simp [F82]) fun c => ?_
  unfold F82
  simp
  have hr := resv_len
  refine loop_drop resv.length (fun i e H c' => e 0 = .str s ∧ e 3 = .ref 0 c 1 28 ∧ e 4 = .int .i64 i ∧ H = [⟨false, c, 1, resv.map fun x => [.str x]⟩]) ⟨rfl, rfl, rfl, rfl⟩ ?_
  generalize resv = L at hs hr
  intro i e H c' hi ⟨e0, e3, e4, hH⟩ N hN
  subst hH
  by_cases h : i < L.length
  · have hx : L[i]? = some L[i] := List.getElem?_eq_getElem h
    have hb := hs _ (List.getElem_mem h)
    generalize L[i] = b at hx hb
    have h28 : (i : Int) < 28 := by omega
    simp [e0, e3, e4, h, getW_of hx, hr, h28, hb]
    exact hN _ _ _ _ h (List.Sublist.refl _) ⟨by simp [upd, e0], by simp [upd, e3], by simp [upd]; exact step64 (by unfold mx; omega) h, rfl⟩
  · have hie : i = L.length := by omega
    subst hie
    simp [e0, e3, e4, hr]
    exact fin_plain ⟨rfl, rfl⟩
theorem isName_fn {s : List UInt8} (hs : ∀ b, b ∈ s → inR (b.toNat : Int) 97 122 = true) (h0 : 1 ≤ s.length) (hl : s.length ≤ 20) : Fnc Tryz.prog 81 [.str s] (.bool true) := by
  have h1 : (1 : Int) ≤ (s.length : Int) := by omega
  have h2 : (s.length : Int) ≤ 20 := by omega
  refine fn_of c81 (by simp [F81]) fun c => ?_
  unfold F81
  simp [h0, hl, h1, h2]
  refine call_fn0 (l14Name_fn hs hl) .int fun _ _ => ?_
  simp
  exact fin_plain ⟨rfl, rfl⟩
theorem l15Name_fn {s : List UInt8} (hs : ∀ b, b ∈ s → inR (b.toNat : Int) 97 122 = true) (h0 : 1 ≤ s.length) (hl : s.length ≤ 20) (hr : ∀ x, x ∈ resv → x ≠ s) : Fnc Tryz.prog 48 [.str s] (.bool true) := by
  refine fn_of c48 (by simp [F48]) fun c => ?_
  unfold F48
  simp
  refine call_fn0 (isName_fn hs h0 hl) .bool fun _ _ => ?_
  simp
  refine call_fn0 (isRes_fn hr) .bool fun _ _ => ?_
  simp
  exact fin_plain ⟨rfl, rfl⟩
theorem name_get : Fnc Tryz.prog 48 [.str nGet] (.bool true) := l15Name_fn (by decide) (by decide) (by decide) (by decide)
theorem name_cookie : Fnc Tryz.prog 48 [.str nCookie] (.bool true) := l15Name_fn (by decide) (by decide) (by decide) (by decide)
def VarOk (b : TBinding) : Prop := (b.Name = nGet ∨ b.Name = nCookie) ∧ ∃ (n : Int) (s : SL TEntry), TValue.enc b.Val = vrow n (s.av 8 TEntry.enc) ∧ WFa (s.list, n) ∧ s.list.length ≤ 100
theorem free_bx (b : Bool) : Free (.bool b) := fun T => .bool
theorem areVars_fn {l : SL TBinding} (h : ∀ b, b ∈ l.list → VarOk b) (hd : ∀ (i k : Nat) (a b : TBinding), l.list[i]? = some a → l.list[k]? = some b → k < i → b.Name ≠ a.Name) (hl : l.list.length ≤ 100) : Fnc Tryz.prog 24 [l.av 6 TBinding.enc] (.bool true) := by
  refine fn_of c24 (by simp [F24]) fun c => ?_
  unfold F24
  simp
  refine loop_drop l.list.length (fun i e H c' => e 0 = l.av 6 TBinding.enc ∧ e 3 = .int .i64 i ∧ H = []) ⟨rfl, rfl, rfl⟩ ?_
  intro i e H c' hi ⟨e0, e3, hH⟩ N hN
  subst hH
  by_cases hi' : i < l.list.length
  · have hx : l.list[i]? = some l.list[i] := List.getElem?_eq_getElem hi'
    have hb := h _ (List.getElem_mem hi')
    generalize l.list[i] = a at hx hb
    simp [e0, e3, hi']
    refine loop_drop i (fun k e H c' => e 0 = l.av 6 TBinding.enc ∧ e 3 = .int .i64 i ∧ e 4 = .int .i64 k ∧ H = []) ⟨by simp [upd, e0], by simp [upd, e3], rfl, rfl⟩ ?_
    intro k e H c' hk ⟨e0, e3, e4, hH⟩ M hM
    subst hH
    by_cases hk' : k < i
    · have hkl : k < l.list.length := by omega
      have hy : l.list[k]? = some l.list[k] := List.getElem?_eq_getElem hkl
      generalize l.list[k] = b at hy
      have hne := hd i k a b hx hy hk'
      simp [e0, e3, e4, hk', getW_of hx, getW_of hy, hne]
      exact hM _ _ _ _ hk' (List.Sublist.refl _) ⟨by simp [upd, e0], by simp [upd, e3], by simp [upd]; exact step64 (by unfold mx; omega) hkl, rfl⟩
    · have hie : k = i := by omega
      subst hie
      obtain ⟨hn, n, s, hv, hw, hs⟩ := hb
      have hvs : ∀ x, x ∈ s.list → ∃ v, x.Val = txV v := fun x hx => by
        obtain ⟨i, hi, he⟩ := List.mem_iff_getElem.1 hx
        obtain ⟨_, _, _, v, hv, _⟩ := hw.at_ i x (by rw [← he]; exact List.getElem?_eq_getElem hi)
        exact ⟨v, hv⟩
      have hnm : Fnc Tryz.prog 48 [.str a.Name] (.bool true) := by
        rcases hn with hn | hn
        · rw [hn]; exact name_get
        · rw [hn]; exact name_cookie
      have hth : a.Name ≠ [116, 104, 105, 115] := by
        rcases hn with hn | hn
        · rw [hn]; decide
        · rw [hn]; decide
      simp [e0, e3, e4, getW_of hx]
      refine call_fn0 hnm .bool fun _ _ => ?_
      have ht : List.take 5 a.enc.tail = vrow n (s.av 8 TEntry.enc) := hv
      simp [e0, e3, e4, getW_of hx, hth, ht]
      refine call_fn0 (isVal_fn hw hs) .bool fun _ _ => ?_
      simp [e0, e3, e4, getW_of hx, hth, ht]
      refine call_fn0 (plainA_fn hvs hs) .bool fun _ _ => ?_
      simp [e0, e3, e4]
      exact hN _ _ _ _ hi' (List.Sublist.refl _) ⟨by simp [upd, e0], by simp [upd]; exact step64 (by unfold mx; omega) hi', rfl⟩
  · have hie : i = l.list.length := by omega
    subst hie
    simp [e0, e3]
    exact fin_plain ⟨rfl, rfl⟩
theorem copy0_fn {l : List UInt8} : Fnc Tryz.prog 52 [.agg (txV l).enc] (.agg (txV l).enc) := by
  refine fn_of c52 (by simp [F52]) fun c => ?_
  unfold F52
  simp [putA]
  have hp : List.take 4 (txV l).enc ++ AV.nsl :: List.drop 5 (txV l).enc = (txV l).enc := rfl
  refine loop_drop 0 (fun i e H c' => e 1 = .ptr 0 c 5 0 0 ∧ e 2 = .ptr 1 (c + 1) 5 0 0 ∧ e 3 = .ptr 2 (c + 1 + 1) 5 0 0 ∧ e 4 = .int .i64 0 ∧ H = [⟨false, c, 5, [(txV l).enc]⟩, ⟨false, c + 1, 5, [[AV.int IntKind.i64 0, AV.int IntKind.i64 0, AV.str [], AV.int IntKind.i64 0, AV.nsl]]⟩, ⟨false, c + 1 + 1, 5, [(txV l).enc]⟩]) ⟨rfl, rfl, rfl, rfl, rfl⟩ ?_
  intro i e H c' hi ⟨e1, e2, e3, e4, hH⟩ N hN
  subst hH
  simp [e1, e2, e3, e4]
  exact fin_plain ⟨rfl, rfl⟩
theorem get_of {es : List TEntry} {k : TKey} {v : List UInt8} (hg : getE es k = some (txV v)) : ∃ e, es[fdN k es]? = some e ∧ e.Val = txV v := by
  unfold getE at hg
  cases h : es[fdN k es]? with
  | none => rw [h] at hg; simp at hg
  | some e => rw [h] at hg; exact ⟨e, rfl, by simpa using hg⟩
theorem free_txb (v : List UInt8) (b : Bool) : Free (.tup [.agg (txV v).enc, .bool b]) := free_tup fun x hx => by
  simp at hx
  rcases hx with h | h
  · subst h; exact free_val0 _
  · subst h; exact fun T => .bool
theorem l6Get_fn {n : Int} {s : SL TEntry} {k : TKey} {v : List UInt8} (hn : s.list.length ≤ mx) (hg : getE s.list k = some (txV v)) : Fnc Tryz.prog 51 [.agg (vrow n (s.av 8 TEntry.enc)), .agg k.enc] (.tup [.agg (txV v).enc, .bool true]) := by
  obtain ⟨x, hx, hxv⟩ := get_of hg
  have hlt := (List.getElem?_eq_some_iff.1 hx).1
  have hfd : fdI s.list k = (fdN k s.list : Int) := by unfold fdI; rw [if_pos hlt]
  generalize hi : fdN k s.list = i at hx hlt hfd
  have h0 : ¬ (i : Int) < 0 := by omega
  refine fn_of c51 (by simp [F51]) fun c => ?_
  unfold F51
  simp [putA]
  refine call_fn0 (l5Find_fn (s := s) hn) .int fun _ _ => ?_
  simp [hfd, h0, getW_of hx, hxv, hlt]
  exact fin_plain ⟨rfl, rfl⟩
theorem getKey_fn {n : Int} {s : SL TEntry} {k : TKey} {v : List UInt8} (hn : s.list.length ≤ mx) (hg : getE s.list k = some (txV v)) : Fnc Tryz.prog 25 [.agg (vrow n (s.av 8 TEntry.enc)), .agg k.enc] (.tup [.agg (txV v).enc, .bool true]) := by
  refine fn_of c25 (by simp [F25]) fun c => ?_
  unfold F25
  simp [putA]
  refine call_fn0 (l6Get_fn hn hg) (free_txb _ _ _) fun _ _ => ?_
  simp [putA]
  refine call_fn0 copy0_fn (free_val0 _ _) fun _ _ => ?_
  simp [putA]
  exact fin_plain ⟨rfl, rfl⟩
theorem eqPairC (x : TPair) : fitsK [1, 1] x.enc = true ∧ eqCells x.enc x.enc = some true := by simp [TPair.enc, eqCells, keyEq, fitsK]
theorem samePairs_fn {a b : SL TPair} (h : a.list = b.list) (hl : a.list.length ≤ 100) : Fnc Tryz.prog 23 [a.av 2 TPair.enc, b.av 2 TPair.enc] (.bool true) := by
  refine fn_of c23 (by simp [F23]) fun c => ?_
  unfold F23
  simp [h]
  refine loop_drop b.list.length (fun i e H c' => e 0 = a.av 2 TPair.enc ∧ e 1 = b.av 2 TPair.enc ∧ e 5 = .int .i64 i ∧ H = []) ⟨rfl, rfl, rfl, rfl⟩ ?_
  intro i e H c' hi ⟨e0, e1, e3, hH⟩ N hN
  subst hH
  by_cases hi' : i < b.list.length
  · have hx : b.list[i]? = some b.list[i] := List.getElem?_eq_getElem hi'
    generalize b.list[i] = x at hx
    have hy : a.list[i]? = some x := by rw [h]; exact hx
    have ha : i < a.list.length := by rw [h]; exact hi'
    simp [e0, e1, e3, h, hi', getW_of hx, getW_of hy, (eqPairC x).1, (eqPairC x).2]
    exact hN _ _ _ _ hi' (List.Sublist.refl _) ⟨by simp [upd, e0], by simp [upd, e1], by simp [upd]; exact step64 (by rw [← h]; unfold mx; omega) hi', rfl⟩
  · have hie : i = b.list.length := by omega
    subst hie
    simp [e0, e1, e3, h]
    exact fin_plain ⟨rfl, rfl⟩
theorem big_fn {s : SL Int} (hl : s.list.length ≤ mx) : Fnc Tryz.prog 14 [s.av 1 encU] (.bool (decide ((1048576 : Int) < s.list.length))) := by
  refine fn_of c14 (by simp [F14]) fun c => ?_
  unfold F14
  simp
  exact fin_plain ⟨by simp, rfl⟩
end A
end Go.Proofs.YtmhmaokbicgmbaaGreatDoor

/-
  EscapeURL of the reference and of the program. No condition.
-/


namespace Go.Proofs.YtmhmaokbicgmbaaGreatDoor
namespace A
set_option linter.unusedVariables false
set_option linter.unusedSimpArgs false
set_option maxRecDepth 100000

def hexL : List UInt8 := [48, 49, 50, 51, 52, 53, 54, 55, 56, 57, 65, 66, 67, 68, 69, 70]
def up (n : Nat) : UInt8 := hexL.getD n 0
theorem up_at {n : Nat} (h : n < 16) : hexL[n]? = some (up n) := by
  have : ∀ n, n < 16 → hexL[n]? = some (up n) := by decide
  exact this n h
def plainB (b : UInt8) : Bool := isA b || isD b || decide (b.toNat = 45) || decide (b.toNat = 95) || decide (b.toNat = 46) || decide (b.toNat = 126)
def escB (b : UInt8) : List UInt8 := if plainB b then [b] else [37, up (b.toNat / 16), up (b.toNat % 16)]
def escL (l : List UInt8) : List UInt8 := l.flatMap escB
theorem escB_len (b : UInt8) : (escB b).length ≤ 3 := by unfold escB; split <;> simp
theorem escL_len (l : List UInt8) : (escL l).length ≤ 3 * l.length := by
  unfold escL
  induction l with
  | nil => simp
  | cons b l ih => have := escB_len b; simp [List.flatMap_cons] at ih ⊢; omega
theorem escL_step (l : List UInt8) {i : Nat} (h : i < l.length) : escL (l.take (i + 1)) = escL (l.take i) ++ escB l[i] := by
  unfold escL; rw [List.take_succ_eq_append_getElem h, List.flatMap_append]; simp

theorem hexUpper_fn {n : Nat} (h : n < 16) : Fnc Tryz.prog 108 [.int .u8 n] (.int .u8 (up n).toNat) := by
  refine fn_of c108 (by simp [F108]) fun c => ?_
  unfold F108
  have hb := up_at h
  unfold hexL at hb
  simp
  refine ⟨_, hb, ?_⟩
  exact fin_plain ⟨rfl, rfl⟩
def andE (a b : Int) : Int := IntKind.i64.wrap ((BitVec.ofInt 64 a &&& BitVec.ofInt 64 b).toNat : Int)
theorem intW_andE (a b : Int) (K : AV → Prop) : intW .and .i64 a b K = K (.int .i64 (andE a b)) := rfl
theorem shr4 (a : Int) (K : AV → Prop) : binW .shr (.int .i64 a) (.int .u64 4) K = K (.int .i64 (a.fdiv 16)) := by
  simp [binW, IntKind.bits]
theorem and15 {n : Nat} (h : n < 256) : andE (n : Int) 15 = ((n % 16 : Nat) : Int) := by
  have : ∀ n : Nat, n < 256 → andE (n : Int) 15 = ((n % 16 : Nat) : Int) := by decide
  exact this n h
theorem take1 {l : List UInt8} {i : Nat} {b : UInt8} (h : l[i]? = some b) : List.drop i (List.take (i + 1) l) = [b] := by
  obtain ⟨hi, rfl⟩ := List.getElem?_eq_some_iff.1 h
  rw [List.take_succ_eq_append_getElem hi, List.drop_append_of_le_length (by simp; omega)]
  simp
theorem implEsc_fn {l : List UInt8} (hl : l.length ≤ 1048576) : Fnc Tryz.prog 80 [.str l] (.str (escL l)) := by
  refine fn_of c80 (by simp [F80]) fun c => ?_
  unfold F80
  simp
  refine loop_drop l.length (fun i e H c' => e 0 = .str l ∧ e 4 = .int .i64 i ∧ ∃ t, e 3 = .ref 0 t 1 (escL (l.take i)).length ∧ H = [⟨false, t, 1, (escL (l.take i)).map byteRow⟩]) ⟨rfl, rfl, _, by simp [escL]; rfl, by simp [escL]⟩ ?_
  intro i e H c hi ⟨e0, e4, t, e3, hH⟩ N hN
  subst hH
  simp [e0, e3, e4]
  refine ⟨fun h => ?_, fun h => ?_⟩
  · have hb : l[i]? = some l[i] := List.getElem?_eq_getElem h
    have hst := escL_step l h
    have hle := escL_len (l.take i)
    simp at hle
    have hw : IntKind.i64.wrap ((i : Int) + 1) = ((i + 1 : Nat) : Int) := by rw [step64 (by unfold mx; omega) h]; rfl
    generalize l[i] = b at hb hst
    have hm1 : (escL (l.take i)).length + 1 ≤ 140737488355328 := by omega
    have hm2 : (escL (l.take i)).length + 1 ≤ mx := by unfold mx; omega
    have hm3 : (escL (l.take i)).length + 3 ≤ 140737488355328 := by omega
    have hm4 : (escL (l.take i)).length + 3 ≤ mx := by unfold mx; omega
    refine ⟨_, hb, ?_⟩
    simp [e0, e3, e4]
    refine call_fn0 (isLetter_fn b) .bool fun _ _ => ?_
    cases h1 : isA b
    case true =>
      simp [e0, e3, e4, hm1, hm2, hw]
      refine hN _ _ _ _ h (sub_one _ _) ⟨by simp [upd, e0], by simp [upd], _, by simp [upd, hst, escB, plainB, h1]; rfl, by simp [hst, escB, plainB, h1, byteRow]⟩
    simp [e0, e3, e4]
    refine call_fn0 (isDigit_fn b) .bool fun _ _ => ?_
    cases h2 : isD b
    case true =>
      simp [e0, e3, e4, hm1, hm2, hw]
      refine hN _ _ _ _ h (sub_one _ _) ⟨by simp [upd, e0], by simp [upd], _, by simp [upd, hst, escB, plainB, h1, h2]; rfl, by simp [hst, escB, plainB, h1, h2, byteRow]⟩
    by_cases h4 : b.toNat = 45
    · simp [e0, e3, e4, hm1, hm2, hw, h4]
      refine hN _ _ _ _ h (sub_one _ _) ⟨by simp [upd, e0], by simp [upd], _, by simp [upd, hst, escB, plainB, h1, h2, h4]; rfl, by simp [hst, escB, plainB, h1, h2, h4, byteRow]⟩
    by_cases h5 : b.toNat = 95
    · simp [e0, e3, e4, hm1, hm2, hw, h4, h5]
      refine hN _ _ _ _ h (sub_one _ _) ⟨by simp [upd, e0], by simp [upd], _, by simp [upd, hst, escB, plainB, h1, h2, h4, h5]; rfl, by simp [hst, escB, plainB, h1, h2, h4, h5, byteRow]⟩
    by_cases h6 : b.toNat = 46
    · simp [e0, e3, e4, hm1, hm2, hw, h4, h5, h6]
      refine hN _ _ _ _ h (sub_one _ _) ⟨by simp [upd, e0], by simp [upd], _, by simp [upd, hst, escB, plainB, h1, h2, h4, h5, h6]; rfl, by simp [hst, escB, plainB, h1, h2, h4, h5, h6, byteRow]⟩
    by_cases h7 : b.toNat = 126
    · simp [e0, e3, e4, hm1, hm2, hw, h4, h5, h6, h7]
      refine hN _ _ _ _ h (sub_one _ _) ⟨by simp [upd, e0], by simp [upd], _, by simp [upd, hst, escB, plainB, h1, h2, h4, h5, h6, h7]; rfl, by simp [hst, escB, plainB, h1, h2, h4, h5, h6, h7, byteRow]⟩
    have hp : plainB b = false := by simp [plainB, h1, h2, h4, h5, h6, h7]
    have k4 : ¬ (b.toNat : Int) = 45 := by omega
    have k5 : ¬ (b.toNat : Int) = 95 := by omega
    have k6 : ¬ (b.toNat : Int) = 46 := by omega
    have k7 : ¬ (b.toNat : Int) = 126 := by omega
    have hlt := b.toNat_lt
    have q1 : ((b.toNat : Int)).tdiv 16 = ((b.toNat / 16 : Nat) : Int) := by rw [Int.tdiv_eq_ediv_of_nonneg (by omega)]; omega
    have q2 : ((b.toNat : Int)).tmod 16 = ((b.toNat % 16 : Nat) : Int) := by rw [Int.tmod_eq_emod_of_nonneg (by omega)]; omega
    have q3 : IntKind.u8.wrap ((b.toNat / 16 : Nat) : Int) = ((b.toNat / 16 : Nat) : Int) := by rw [IntKind.wrap_u8]; omega
    simp [e0, e3, e4, k4, k5, k6, k7, q1, q3, -Int.natCast_ediv, -Int.natCast_emod]
    refine call_fn0 (hexUpper_fn (by omega)) .int fun _ _ => ?_
    simp [e0, e3, e4, q2, -Int.natCast_ediv, -Int.natCast_emod]
    refine call_fn0 (hexUpper_fn (by omega)) .int fun _ _ => ?_
    simp [e0, e3, e4, hm3, hm4, hw, -Int.natCast_ediv, -Int.natCast_emod]
    refine hN _ _ _ _ h (sub_one _ _) ⟨by simp [upd, e0], by simp [upd], _, by simp [upd, hst, escB, hp]; rfl, by simp [hst, escB, hp, byteRow]⟩
  · have : i = l.length := by omega
    subst this
    have hle := escL_len l
    simp
    refine toStrW_ref (l := escL l) rfl rfl (by unfold mx; omega) ?_
    simp
    exact fin_sub (List.nil_sublist _) (.refl _) ⟨rfl, rfl⟩
end A
end Go.Proofs.YtmhmaokbicgmbaaGreatDoor

/-
  Pairs written as0 text, by the reference and by the program; the laws of FormatQuery and FormatCookies answer true. No condition.
-/



namespace Go.Proofs.YtmhmaokbicgmbaaGreatDoor
namespace A
set_option linter.unusedVariables false
set_option linter.unusedSimpArgs false
set_option maxRecDepth 100000

def pairT (p : TPair) : List UInt8 := escL p.Name ++ 61 :: escL p.Value
def fmtP (sep : List UInt8) (l : List TPair) : List UInt8 := joinL sep (l.map pairT)
theorem pairT_len (p : TPair) : (pairT p).length ≤ 3 * p.sz + 1 := by
  have h1 := escL_len p.Name
  have h2 := escL_len p.Value
  simp [pairT, TPair.sz]; omega
theorem fmtP_len {sep : List UInt8} (hs : sep.length ≤ 2) (l : List TPair) : (fmtP sep l).length ≤ 3 * (l.length + szL TPair.sz l) := by
  refine Nat.le_trans (joinL_len hs _) ?_
  induction l with
  | nil => simp [szL]
  | cons p l ih => have := pairT_len p; simp [szL] at ih ⊢; omega
theorem fmtP_step (sep : List UInt8) (l : List TPair) {i : Nat} (h : i < l.length) : fmtP sep (l.take (i + 1)) = (if 0 < i then fmtP sep (l.take i) ++ sep else []) ++ pairT l[i] := by
  unfold fmtP
  rw [List.take_succ_eq_append_getElem h, List.map_append, List.map_singleton, joinL_snoc]
  simp only [List.length_map, List.length_take, Nat.min_eq_left (Nat.le_of_lt h)]

theorem impl_fmt {s : SL TPair} {sep : List UInt8} (hs : sep.length ≤ 2) (hz : s.list.length + szL TPair.sz s.list ≤ 1048576) : Fnc Tryz.prog 47 [s.av 2 TPair.enc, .str sep] (.str (fmtP sep s.list)) := by
  refine fn_of c47 (by simp [F47]) fun c => ?_
  unfold F47
  simp
  refine loop_drop s.list.length (fun i e H c' => e 1 = .str sep ∧ e 9 = s.av 2 TPair.enc ∧ e 10 = .int .i64 s.list.length ∧ e 11 = .int .i64 i ∧ ∃ t, e 5 = .ref 0 t 1 i ∧ H = [⟨false, t, 1, ((s.list.take i).map pairT).map encS⟩]) ⟨rfl, rfl, rfl, rfl, c, rfl, rfl⟩ ?_
  intro i e H c hi ⟨e1, e9, e10, e11, t, e5, hH⟩ N hN
  subst hH
  simp [e1, e5, e9, e10, e11]
  refine ⟨fun h => ?_, fun h => ?_⟩
  · have hl : s.list[i]? = some s.list[i] := List.getElem?_eq_getElem h
    have hw : IntKind.i64.wrap ((i : Int) + 1) = ((i + 1 : Nat) : Int) := by rw [step64 (by unfold mx; omega) h]; rfl
    have hx := szL_mem (sz := TPair.sz) (List.getElem_mem h)
    have htk : ((s.list.take (i + 1)).map pairT).map encS = List.take i (List.map (encS ∘ pairT) s.list) ++ [encS (pairT s.list[i])] := by rw [List.take_succ_eq_append_getElem h, List.map_append, List.map_append]; simp
    generalize s.list[i] = x at hl hx htk
    have hx1 : x.Name.length ≤ 1048576 := by simp only [TPair.sz] at hx; omega
    have hx2 : x.Value.length ≤ 1048576 := by simp only [TPair.sz] at hx; omega
    have hp1 := escL_len x.Name
    have hp2 := escL_len x.Value
    have hm0 : (escL x.Name).length + 1 ≤ mx := by unfold mx; omega
    have hm3 : (escL x.Name).length + (1 + (escL x.Value).length) ≤ mx := by unfold mx; omega
    have hm4 : (escL x.Name).length + 1 + (escL x.Value).length ≤ mx := by unfold mx; omega
    have hm5 : (escL x.Name).length + ((escL x.Value).length + 1) ≤ mx := by unfold mx; omega
    have hm1 : (i + 1) * 16 ≤ 140737488355328 := by omega
    have hm2 : i + 1 ≤ mx := by unfold mx; omega
    refine ⟨x, hl, ?_⟩
    simp [e1, e5, e9, e10, e11, putA]
    refine callF_fn0 (implEsc_fn hx1) .str fun _ _ => ?_
    simp [e1, e5, e9, e10, e11, hm0]
    refine callF_fn0 (implEsc_fn hx2) .str fun _ _ => ?_
    simp [e1, e5, e9, e10, e11, hm1, hm2, hm3, hm4, hm5, hw]
    refine ⟨by simp; omega, hN _ _ _ _ h (sub_one _ _) ⟨by simp [upd, e1], by simp [upd, e9], by simp [upd, e10], by simp [upd], _, by simp [upd]; rfl, ?_⟩⟩
    rw [htk]; simp [encS, pairT, List.take_take]
  · have : i = s.list.length := by omega
    subst this
    have hl := fmtP_len hs s.list
    unfold fmtP at hl
    rw [List.take_of_length_le (by simp), ← List.map_map]
    refine call_fn (join_fn (t := t) (l := s.list.map pairT) (by omega) (by simp; omega)) (.cons (view_ref (enc := encS) (l := s.list.map pairT) (by simp) (by simp) (by simp [encS])) (.cons (.refl _) .nil)) .str fun _ _ => ?_
    simp
    exact fin_sub (List.nil_sublist _) (.refl _) ⟨rfl, rfl⟩

theorem impl_fmtQ {s : SL TPair} (hz : s.list.length + szL TPair.sz s.list ≤ 1048576) : Fnc Tryz.prog 20 [s.av 2 TPair.enc] (.str (fmtP [38] s.list)) := by
  refine fn_of c20 (by simp [F20]) fun c => ?_
  unfold F20
  simp
  refine call_fn0 (impl_fmt (by simp) hz) .str fun _ _ => ?_
  simp
  exact fin_plain ⟨rfl, rfl⟩
theorem impl_fmtC {s : SL TPair} (hz : s.list.length + szL TPair.sz s.list ≤ 1048576) : Fnc Tryz.prog 22 [s.av 2 TPair.enc] (.str (fmtP [59, 32] s.list)) := by
  refine fn_of c22 (by simp [F22]) fun c => ?_
  unfold F22
  simp
  refine call_fn0 (impl_fmt (by simp) hz) .str fun _ _ => ?_
  simp
  exact fin_plain ⟨rfl, rfl⟩
end A
end Go.Proofs.YtmhmaokbicgmbaaGreatDoor

/-
  FormatRequest of the reference and of the program are the same plain function, and the law answers true. No condition.
-/


namespace Go.Proofs.YtmhmaokbicgmbaaGreatDoor
namespace A
set_option linter.unusedVariables false
set_option linter.unusedSimpArgs false
set_option maxRecDepth 100000

def fqA (x : TRequest) : List UInt8 := [71, 69, 84, 32, 47] ++ x.Path
def fqB (x : TRequest) : List UInt8 := if x.Query.list = [] then [] else 63 :: fmtP [38] x.Query.list
def fqC : List UInt8 := [32, 72, 84, 84, 80, 47, 49, 46, 49, 13, 10]
def fqD (x : TRequest) : List UInt8 := if x.Cookies.list = [] then [] else [67, 111, 111, 107, 105, 101, 58, 32] ++ (fmtP [59, 32] x.Cookies.list ++ [13, 10])
def fmtQ (x : TRequest) : List UInt8 := fqA x ++ (fqB x ++ (fqC ++ (fqD x ++ [13, 10])))
theorem fmtQ_con {a b : TRequest} (h : a.con = b.con) : fmtQ a = fmtQ b := by
  obtain ⟨h1, h2, h3⟩ := req_same h
  unfold fmtQ fqA fqB fqD; rw [h1, h2, h3]
theorem impl_fmtReq {x : TRequest} (hx : x.ok) (hz : x.sz ≤ 1048576) : Fnc Tryz.prog 16 [.agg x.enc] (.str (if isReq x then fmtQ x else [])) := by
  have hzz : x.Path.length + szPairS x.Query + szPairS x.Cookies ≤ 1048576 := hz
  unfold szPairS at hzz
  refine fn_of c16 (by simp [F16]) fun c => ?_
  unfold F16
  simp
  refine call_fn0 (impl_isReq hx) .bool fun _ _ => ?_
  cases hi : isReq x
  · simp
    exact fin_plain ⟨rfl, rfl⟩
  have l1 := fmtP_len (sep := [38]) (by simp) x.Query.list
  have l2 := fmtP_len (sep := [59, 32]) (by simp) x.Cookies.list
  have hA : fqA x = [71, 69, 84, 32, 47] ++ x.Path := rfl
  simp
  refine ⟨by unfold mx; omega, ?_⟩
  by_cases hq : ¬ x.Query.list = []
  focus
    have hB : fqB x = 63 :: fmtP [38] x.Query.list := by unfold fqB; rw [if_neg hq]
    have hq' : 0 < x.Query.list.length := List.length_pos_iff.2 hq
    simp [hq, hq']
    refine ⟨by unfold mx; omega, ?_⟩
    refine call_fn0 (impl_fmtQ (by omega)) .str fun _ _ => ?_
    simp
    refine ⟨by unfold mx; omega, by unfold mx; omega, ?_⟩
  rotate_left
  focus
    have hB : fqB x = [] := by unfold fqB; rw [if_pos (Classical.not_not.1 hq)]
    have hq0 : x.Query.list = [] := Classical.not_not.1 hq
    simp [hq0]
    refine ⟨by unfold mx; omega, ?_⟩
  rotate_left
  all_goals
    by_cases hc : ¬ x.Cookies.list = []
    · have hD : fqD x = [67, 111, 111, 107, 105, 101, 58, 32] ++ (fmtP [59, 32] x.Cookies.list ++ [13, 10]) := by unfold fqD; rw [if_neg hc]
      have hc' : 0 < x.Cookies.list.length := List.length_pos_iff.2 hc
      simp [hc, hc']
      refine ⟨by unfold mx; omega, ?_⟩
      refine call_fn0 (impl_fmtC (by omega)) .str fun _ _ => ?_
      simp
      refine ⟨by unfold mx; omega, by unfold mx; omega, by unfold mx; omega, ?_⟩
      exact fin_plain ⟨by simp [fmtQ, hA, hB, hD, fqC], rfl⟩
    · have hD : fqD x = [] := by unfold fqD; rw [if_pos (Classical.not_not.1 hc)]
      have hc0 : x.Cookies.list = [] := Classical.not_not.1 hc
      simp [hc0]
      refine ⟨by unfold mx; omega, ?_⟩
      exact fin_plain ⟨by simp [fmtQ, hA, hB, hD, fqC], rfl⟩
end A
end Go.Proofs.YtmhmaokbicgmbaaGreatDoor

/-
  UnescapeURL of the reference and of the program are the same plain function. No condition.
-/

namespace Go.Proofs.YtmhmaokbicgmbaaGreatDoor
namespace A
set_option linter.unusedVariables false
set_option linter.unusedSimpArgs false
set_option maxRecDepth 100000

/-- a hexadecimal digit's value -/
def hxv (b : UInt8) : Option Nat := if inR b.toNat 48 57 then some (b.toNat - 48) else if inR b.toNat 65 70 then some (b.toNat - 55) else if inR b.toNat 97 102 then some (b.toNat - 87) else none
theorem hxv_lt {b : UInt8} {n : Nat} (h : hxv b = some n) : n < 16 := by
  unfold hxv at h
  split at h
  · rename_i h1; have := inR_true h1; cases h; omega
  · split at h
    · rename_i h1; have := inR_true h1; cases h; omega
    · split at h
      · rename_i h1; have := inR_true h1; cases h; omega
      · cases h
def stp (a : Option Nat) (b : UInt8) : Option Nat := a.bind fun a => (hxv b).map (16 * a + ·)
def two (l : List UInt8) : Option Nat :=
  match l with
  | x :: y :: _ => stp (stp (some 0) x) y
  | _ => none
theorem two_lt {l : List UInt8} {n : Nat} (h : two l = some n) : n < 256 := by
  match l with
  | [] => cases h
  | [_] => cases h
  | x :: y :: r =>
    simp only [two, stp, Option.bind_some, Nat.mul_zero, Nat.zero_add] at h
    cases hx : hxv x with
    | none => rw [hx] at h; cases h
    | some m =>
      rw [hx] at h
      cases hy : hxv y with
      | none => rw [hy] at h; cases h
      | some k =>
        rw [hy] at h
        have h1 := hxv_lt hx
        have h2 := hxv_lt hy
        simp at h
        omega
theorem drop_two {l : List UInt8} {p : Nat} {x y : UInt8} (hx : l[p]? = some x) (hy : l[p + 1]? = some y) : l.drop p = x :: y :: l.drop (p + 2) := by
  obtain ⟨h1, rfl⟩ := List.getElem?_eq_some_iff.1 hx
  obtain ⟨h2, rfl⟩ := List.getElem?_eq_some_iff.1 hy
  rw [List.drop_eq_getElem_cons h1, List.drop_eq_getElem_cons h2]
theorem two_short {l : List UInt8} {p : Nat} (h : l.length < p + 2) : two (l.drop p) = none := by
  have hl : (l.drop p).length < 2 := by rw [List.length_drop]; omega
  match l.drop p, hl with
  | [], _ => rfl
  | [_], _ => rfl

/-- what is read out of a text of an address -/
def une (l : List UInt8) : Option (List UInt8) :=
  match l with
  | [] => some []
  | b :: r =>
    if b.toNat = 43 then (une r).map (32 :: ·)
    else if b.toNat = 37 then (two r).bind fun n => (une (r.drop 2)).map (UInt8.ofNat n :: ·)
    else (une r).map (b :: ·)
termination_by l.length
decreasing_by all_goals simp_wf; all_goals omega
theorem une_nil : une [] = some [] := by rw [une]
theorem une_len : ∀ (n : Nat) (l o : List UInt8), l.length ≤ n → une l = some o → o.length ≤ l.length
  | n, [], o, _, h => by rw [une_nil] at h; cases h; simp
  | 0, b :: r, o, hn, h => by simp at hn
  | n + 1, b :: r, o, hn, h => by
    rw [une] at h
    simp at hn
    split at h
    · cases hu : une r with
      | none => rw [hu] at h; cases h
      | some o' => rw [hu] at h; cases h; have := une_len n r o' hn hu; simp; omega
    · split at h
      · cases ht : two r with
        | none => rw [ht] at h; cases h
        | some k =>
          rw [ht] at h
          simp at h
          obtain ⟨o', hu, rfl⟩ := h
          have := une_len n (r.drop 2) o' (by simp; omega) hu
          simp at this ⊢; omega
      · cases hu : une r with
        | none => rw [hu] at h; cases h
        | some o' => rw [hu] at h; cases h; have := une_len n r o' hn hu; simp; omega
def unO (l : List UInt8) : List AV := [.str ((une l).getD []), .bool (une l).isSome]

theorem hexValue_fn (b : UInt8) : Fnc Tryz.prog 124 [.int .u8 b.toNat, .bool true] (.tup [.int .u8 ((hxv b).getD 0 : Nat), .bool (hxv b).isSome]) := by
  refine fn_of c124 (by simp [F124]) fun c => ?_
  unfold F124
  have bx := b.toNat_lt
  simp
  refine call_fn0 (isDigit_fn b) .bool fun _ _ => ?_
  cases h1 : isD b
  case true =>
    have g1 := inR_true (show inR b.toNat 48 57 = true from h1)
    simp
    exact fin_plain ⟨by simp [hxv, show inR b.toNat 48 57 = true from h1, IntKind.wrap_u8]; omega, rfl⟩
  have h1' : inR b.toNat 48 57 = false := h1
  by_cases g2 : 65 ≤ b.toNat
  · have k2 : (65 : Int) ≤ b.toNat := by omega
    by_cases g3 : b.toNat ≤ 70
    · have k3 : (b.toNat : Int) ≤ 70 := by omega
      have i2 : inR b.toNat 65 70 = true := by simp [inR, k2, k3]
      simp [k2, k3]
      exact fin_plain ⟨by simp [hxv, h1', i2, IntKind.wrap_u8]; omega, rfl⟩
    · have k3 : ¬ (b.toNat : Int) ≤ 70 := by omega
      have i2 : inR b.toNat 65 70 = false := by simp [inR, k2, k3]
      by_cases g4 : 97 ≤ b.toNat
      · have k4 : (97 : Int) ≤ b.toNat := by omega
        by_cases g5 : b.toNat ≤ 102
        · have k5 : (b.toNat : Int) ≤ 102 := by omega
          have i3 : inR b.toNat 97 102 = true := by simp [inR, k4, k5]
          simp [k2, k3, k4, k5]
          exact fin_plain ⟨by simp [hxv, h1', i2, i3, IntKind.wrap_u8]; omega, rfl⟩
        · have k5 : ¬ (b.toNat : Int) ≤ 102 := by omega
          have i3 : inR b.toNat 97 102 = false := by simp [inR, k4, k5]
          simp [k2, k3, k4, k5]
          exact fin_plain ⟨by simp [hxv, h1', i2, i3], rfl⟩
      · have k4 : ¬ (97 : Int) ≤ b.toNat := by omega
        have i3 : inR b.toNat 97 102 = false := by simp [inR, k4]
        simp [k2, k3, k4]
        exact fin_plain ⟨by simp [hxv, h1', i2, i3], rfl⟩
  · have k2 : ¬ (65 : Int) ≤ b.toNat := by omega
    have k4 : ¬ (97 : Int) ≤ b.toNat := by omega
    have i2 : inR b.toNat 65 70 = false := by simp [inR, k2]
    have i3 : inR b.toNat 97 102 = false := by simp [inR, k4]
    simp [k2, k4]
    exact fin_plain ⟨by simp [hxv, h1', i2, i3], rfl⟩
def HexQ (l : List UInt8) (p : Nat) (r : AV) : Prop := ∃ v : Int, r = .tup [.int .u8 v, .bool (two (l.drop p)).isSome] ∧ ∀ n, two (l.drop p) = some n → v = n
theorem hexPair_tr {l : List UInt8} {p : Nat} (hl : l.length ≤ 4611686018427387904) (hp : p ≤ l.length) :
    Tr Tryz.prog 105 [.str l, .int .i64 p, .bool true] fun _ r => HexQ l p r := by
  have fr : ∀ (c : Nat) (v : Int) (b : Bool), From c (.tup [.int .u8 v, .bool b]) := fun c v b => from_tup (by simp)
  intro c
  refine con_of c105 (by simp [F105]) ?_
  unfold F105
  simp (disch := first | rfl | decide | omega | simp) [wrap64, ]
  refine ⟨fun h => fin_plain ⟨rfl, ⟨0, by rw [two_short (by omega)]; rfl, fun n hn => ?_⟩, fr _ _ _⟩, fun h => ?_⟩
  · rw [two_short (by omega)] at hn; cases hn
  have hx : l[p]? = some l[p] := List.getElem?_eq_getElem (by omega)
  have hy : l[p + 1]? = some l[p + 1] := List.getElem?_eq_getElem (by omega)
  have hd := drop_two hx hy
  generalize l[p] = x at hx hd
  generalize l[p + 1] = y at hy hd
  simp (disch := first | rfl | decide | omega | simp) [wrap64, getW_of hx]
  refine call_fn0 (hexValue_fn x) (free_tup (by simp [free_int, free_bool]) _) fun _ _ => ?_
  simp (disch := first | rfl | decide | omega | simp) [wrap64, getW_of hy]
  refine ⟨by omega, ?_⟩
  refine call_fn0 (hexValue_fn y) (free_tup (by simp [free_int, free_bool]) _) fun _ _ => ?_
  have hv : ∀ m n, hxv x = some m → hxv y = some n → IntKind.u8.wrap (IntKind.u8.wrap ((m : Int) * 16) + n) = ((16 * m + n : Nat) : Int) := fun m n h1 h2 => by
    have := hxv_lt h1
    have := hxv_lt h2
    rw [IntKind.wrap_u8, IntKind.wrap_u8]
    omega
  have htw : two (l.drop p) = stp (stp (some 0) x) y := by rw [hd]; rfl
  cases h1 : hxv x with
  | none =>
    have ht : two (l.drop p) = none := by rw [htw]; simp [stp, h1]
    simp (disch := first | rfl | decide | omega | simp) [wrap64, ]
    exact fin_plain ⟨rfl, ⟨_, by rw [ht]; rfl, fun n hn => by rw [ht] at hn; cases hn⟩, fr _ _ _⟩
  | some m =>
    cases h2 : hxv y with
    | none =>
      have ht : two (l.drop p) = none := by rw [htw]; simp [stp, h1, h2]
      simp (disch := first | rfl | decide | omega | simp) [wrap64, ]
      exact fin_plain ⟨rfl, ⟨_, by rw [ht]; rfl, fun n hn => by rw [ht] at hn; cases hn⟩, fr _ _ _⟩
    | some n =>
      have ht : two (l.drop p) = some (16 * m + n) := by rw [htw]; simp [stp, h1, h2]
      simp (disch := first | rfl | decide | omega | simp) [wrap64, ]
      exact fin_plain ⟨rfl, ⟨_, by rw [ht]; rfl, fun k hk => by rw [ht] at hk; cases hk; exact hv m n h1 h2⟩, fr _ _ _⟩

theorem une_step {l : List UInt8} {p : Nat} {b : UInt8} (hb : l[p]? = some b) : une (l.drop p) = if b.toNat = 43 then (une (l.drop (p + 1))).map (32 :: ·) else if b.toNat = 37 then (two (l.drop (p + 1))).bind fun n => (une (l.drop (p + 3))).map (UInt8.ofNat n :: ·) else (une (l.drop (p + 1))).map (b :: ·) := by
  obtain ⟨h1, rfl⟩ := List.getElem?_eq_some_iff.1 hb
  rw [List.drop_eq_getElem_cons h1, une, List.drop_drop]
theorem une_map {l : List UInt8} {p q : Nat} {o x : List UInt8} (h : une l = (une (l.drop p)).map (o ++ ·)) (h2 : une (l.drop p) = (une (l.drop q)).map (x ++ ·)) : une l = (une (l.drop q)).map ((o ++ x) ++ ·) := by
  rw [h, h2, Option.map_map]
  congr 1
  funext y
  simp
theorem implUne_fn {l : List UInt8} (hl : l.length ≤ 1048576) : Fnc Tryz.prog 79 [.str l] (.tup (unO l)) := by
  refine fn_of c79 (by simp [F79]) fun c => ?_
  unfold F79
  simp
  refine loop_drop l.length (fun i e H c' => ∃ p : Nat, i ≤ p ∧ p ≤ l.length ∧ e 0 = .str l ∧ e 5 = .int .i64 p ∧ (∃ (o : List UInt8) (t : Nat), o.length ≤ p ∧ une l = (une (l.drop p)).map (o ++ ·) ∧ e 4 = .ref 0 t 1 o.length ∧ H = [⟨false, t, 1, o.map byteRow⟩])) ⟨0, by omega, by omega, rfl, rfl, [], _, by simp, by simp, rfl, rfl⟩ ?_
  intro i e H c hi ⟨p, hip, hp, e0, e5, o, t, hop, ho, e4, hH⟩ N hN
  subst hH
  have hm1 : o.length + 1 ≤ 140737488355328 := by omega
  have hm2 : o.length + 1 ≤ mx := by unfold mx; omega
  by_cases hpl : p < l.length
  case neg =>
    have hpe : p = l.length := by omega
    subst hpe
    have hu : une l = some o := by rw [ho, List.drop_length, une_nil]; simp
    simp [e0, e4, e5]
    refine toStrW_ref (l := o) rfl rfl (by unfold mx; omega) ?_
    simp
    exact fin_sub (List.nil_sublist _) (.refl _) ⟨by simp [unO, hu], rfl⟩
  have hb : l[p]? = some l[p] := List.getElem?_eq_getElem hpl
  generalize l[p] = b at hb
  have hst := une_step hb
  have hbl := b.toNat_lt
  by_cases g1 : b.toNat = 43
  · have k1 : (b.toNat : Int) = 43 := by omega
    rw [if_pos g1] at hst
    simp (disch := first | rfl | decide | omega | simp) [wrap64, e0, e4, e5, hpl, getW_of hb, k1, hm1, hm2]
    refine hN _ _ _ _ (by omega) (sub_one _ _) ⟨p + 1, by omega, by omega, by simp [upd, e0], by simp [upd], o ++ [32], _, by simp; omega, une_map ho hst, by simp [upd]; rfl, by simp [byteRow]⟩
  have k1 : ¬ (b.toNat : Int) = 43 := by omega
  rw [if_neg g1] at hst
  by_cases g2 : b.toNat = 37
  · have k2 : (b.toNat : Int) = 37 := by omega
    rw [if_pos g2] at hst
    simp (disch := first | rfl | decide | omega | simp) [wrap64, e0, e4, e5, hpl, getW_of hb, k2]
    refine call_tree0 (hexPair_tr (p := p + 1) (by omega) (by omega)) fun r _ _ ⟨v, e1, hv⟩ _ => ?_
    subst e1
    cases h2 : two (l.drop (p + 1)) with
    | none =>
      rw [h2] at hst
      have hu : une l = none := by rw [ho, hst]; rfl
      simp (disch := first | rfl | decide | omega | simp) [wrap64, e0, e4, e5, hpl, h2]
      exact fin_plain ⟨by simp [unO, hu], rfl⟩
    | some n =>
      have hn := two_lt h2
      have hv := hv n h2
      subst hv
      rw [h2] at hst
      simp only [Option.bind_some] at hst
      have hroom : p + 3 ≤ l.length := by
        rcases Nat.lt_or_ge l.length (p + 3) with h | h
        · rw [two_short (by omega)] at h2; cases h2
        · exact h
      have hw : (n : Int) = ((UInt8.ofNat n).toNat : Int) := by simp [UInt8.toNat_ofNat']; omega
      simp (disch := first | rfl | decide | omega | simp) [wrap64, e0, e4, e5, hpl, h2, hm1, hm2]
      refine hN _ _ _ _ (by omega) (sub_one _ _) ⟨p + 3, by omega, by omega, by simp [upd, e0], by simp [upd]; omega, o ++ [UInt8.ofNat n], _, by simp; omega, une_map ho hst, by simp [upd]; rfl, by simp [byteRow]; omega⟩
  have k2 : ¬ (b.toNat : Int) = 37 := by omega
  rw [if_neg g2] at hst
  simp (disch := first | rfl | decide | omega | simp) [wrap64, e0, e4, e5, hpl, getW_of hb, k1, k2, hm1, hm2]
  refine hN _ _ _ _ (by omega) (sub_one _ _) ⟨p + 1, by omega, by omega, by simp [upd, e0], by simp [upd], o ++ [b], _, by simp; omega, une_map ho hst, by simp [upd]; rfl, by simp [byteRow]⟩
end A
end Go.Proofs.YtmhmaokbicgmbaaGreatDoor

/-
  Pairs read out of a text, by the reference and by the program: the same plain function. No condition.
-/




namespace Go.Proofs.YtmhmaokbicgmbaaGreatDoor
namespace A
set_option linter.unusedVariables false
set_option linter.unusedSimpArgs false
set_option maxRecDepth 100000

/-! ### the plain function -/
def pairA (x : List UInt8) : TPair := ⟨(une (x.take (upTo 61 x))).getD [], (une (x.drop (upTo 61 x + 1))).getD []⟩
def pairB (x : List UInt8) : Bool := (une (x.take (upTo 61 x))).isSome && (une (x.drop (upTo 61 x + 1))).isSome
def pairOf (x : List UInt8) : Option TPair := if pairB x then some (pairA x) else none
def pairsOf : List (List UInt8) → Option (List TPair)
  | [] => some []
  | x :: r => (pairOf x).bind fun p => (pairsOf r).map (p :: ·)
def parseP (sep l : List UInt8) : Option (List TPair) := if l = [] then some [] else (pairsOf (Lib.split l sep)).bind fun o => if okP o then some o else none
theorem pairsOf_app : ∀ (a b : List (List UInt8)), pairsOf (a ++ b) = (pairsOf a).bind fun x => (pairsOf b).map (x ++ ·)
  | [], b => by simp [pairsOf]
  | x :: a, b => by
    simp only [List.cons_append, pairsOf, pairsOf_app a b]
    cases pairOf x with
    | none => rfl
    | some p =>
      cases pairsOf a with
      | none => rfl
      | some y => cases pairsOf b <;> simp
theorem pairsOf_len : ∀ {a : List (List UInt8)} {o : List TPair}, pairsOf a = some o → o.length = a.length
  | [], o, h => by simp [pairsOf] at h; subst h; rfl
  | x :: a, o, h => by
    simp only [pairsOf] at h
    cases hp : pairOf x with
    | none => rw [hp] at h; cases h
    | some p =>
      rw [hp] at h
      cases ha : pairsOf a with
      | none => rw [ha] at h; cases h
      | some y => rw [ha] at h; simp at h; subst h; simp [pairsOf_len ha]
theorem parseP_ok {sep l : List UInt8} {o : List TPair} (h : parseP sep l = some o) : okP o = true := by
  unfold parseP at h
  split at h
  · cases h; rfl
  · cases hp : pairsOf (Lib.split l sep) with
    | none => rw [hp] at h; cases h
    | some x =>
      rw [hp] at h
      simp only [Option.bind_some] at h
      split at h
      · cases h; assumption
      · cases h


/-! ### one pair -/
theorem free_un (l : List UInt8) : Free (.tup (unO l)) := free_tup fun a ha => by
  simp [unO] at ha
  rcases ha with rfl | rfl
  · exact free_str _
  · exact free_bool _
theorem upTo_drop (b : UInt8) (l : List UInt8) : l.drop (min l.length (upTo b l + 1)) = l.drop (upTo b l + 1) := by
  rcases Nat.le_total l.length (upTo b l + 1) with h | h
  · rw [Nat.min_eq_left h, List.drop_length, List.drop_eq_nil_of_le h]
  · rw [Nat.min_eq_right h]
theorem cut_61 (l : List UInt8) : (Lib.cut l [61]).1 = l.take (upTo 61 l) ∧ (Lib.cut l [61]).2.1 = l.drop (upTo 61 l + 1) := cut_one 61 l

/-! ### all pairs, of the program -/
theorem implParse_con {l sep : List UInt8} (hl : l.length ≤ 1048576) (hs : sep ≠ []) (c : Nat) :
    Con Tryz.prog 46 [.str l, .str sep] [] c fun r O _ => ∃ b : SL TPair, r = .tup [b.ref 2, .bool (parseP sep l).isSome] ∧ O = b.wood 2 TPair.enc noInn ∧ b.list = (parseP sep l).getD [] := by
  refine con_of c46 (by simp [F46]) ?_
  unfold F46
  by_cases h0 : l = []
  · subst h0
    simp
    exact fin_all ⟨.mk c [], by simp [SL.ref, parseP], by simp [flat_wood], by simp [parseP]⟩
  simp [h0]
  refine call_tree0 (split_tr (by omega) hs) fun r _ hc1 ⟨b, e1, q1⟩ _ => ?_
  subst e1
  simp [h0]
  have hpl := split_len l sep
  have hpm := fun x => split_mem (l := l) (sep := sep) (x := x)
  have hpar : parseP sep l = (pairsOf b.list).bind fun o => if okP o then some o else none := by unfold parseP; rw [if_neg h0, q1]
  rw [← q1] at hpl hpm
  refine loop_drop b.list.length (fun i e H c' => e 22 = b.av 1 encS ∧ e 23 = .int .i64 b.list.length ∧ e 24 = .int .i64 i ∧ ∃ (o : List TPair) (t : Nat), pairsOf (b.list.take i) = some o ∧ e 6 = .ref 0 t 2 o.length ∧ H = [⟨false, t, 2, o.map TPair.enc⟩]) ⟨rfl, rfl, rfl, [], c, by simp [pairsOf], rfl, rfl⟩ ?_
  intro i e H c hi ⟨e22, e23, e24, o, t, ho, e6, hH⟩ N hN
  subst hH
  have hol := pairsOf_len ho
  rw [List.length_take] at hol
  have hm1 : (o.length + 1) * 32 ≤ 140737488355328 := by omega
  have hm2 : o.length + 1 ≤ mx := by unfold mx; omega
  by_cases h : i < b.list.length
  · have hx : b.list[i]? = some b.list[i] := List.getElem?_eq_getElem h
    have hall : pairsOf b.list = (pairsOf (b.list.take i)).bind fun x => (pairsOf (b.list[i] :: b.list.drop (i + 1))).map (x ++ ·) := by
      rw [← pairsOf_app, ← List.drop_eq_getElem_cons h, List.take_append_drop]
    have hnext : pairsOf (b.list.take (i + 1)) = (pairsOf (b.list.take i)).bind fun x => (pairsOf [b.list[i]]).map (x ++ ·) := by
      rw [← pairsOf_app, List.take_succ_eq_append_getElem h]
    have hxl := hpm _ (List.getElem_mem h)
    generalize b.list[i] = x at hx hall hnext hxl
    have hstep : IntKind.i64.wrap ((i : Int) + 1) = ((i + 1 : Nat) : Int) := by rw [step64 (by unfold mx; omega) h]; rfl
    obtain ⟨hc1, hc2⟩ := cut_61 x
    rw [ho] at hall hnext
    simp only [Option.bind_some, pairsOf] at hall hnext
    simp [e22, e23, e24, h, getW_of hx]
    refine call_fn0 (cut_fn (by omega)) (free_tup (by simp [free_str, free_bool]) _) fun _ _ => ?_
    simp [e22, e23, e24]
    rw [hc1]
    refine call_fn0 (implUne_fn (by simp; omega)) (free_un _ _) fun _ _ => ?_
    simp [e22, e23, e24, unO]
    rw [hc2]
    refine call_fn0 (implUne_fn (by simp; omega)) (free_un _ _) fun _ _ => ?_
    simp [e22, e23, e24, unO]
    have hpB : pairB x = ((une (x.take (upTo 61 x))).isSome && (une (x.drop (upTo 61 x + 1))).isSome) := rfl
    have hA : ((une (x.take (upTo 61 x))).getD []) = (pairA x).Name := rfl
    have hB : ((une (x.drop (upTo 61 x + 1))).getD []) = (pairA x).Value := rfl
    rw [hA, hB]
    have bad : pairB x = false → parseP sep l = none := fun hb => by
      rw [hpar, hall]; simp [pairOf, hb]
    cases h1 : une (x.take (upTo 61 x)) with
    | none =>
      simp
      have := bad (by rw [hpB, h1]; rfl)
      exact fin_sub (List.nil_sublist _) (.refl _) ⟨.nil, by rw [this]; rfl, rfl, by rw [this]; rfl⟩
    | some u1 =>
    cases h2 : une (x.drop (upTo 61 x + 1)) with
    | none =>
      simp
      have := bad (by rw [hpB, h1, h2]; rfl)
      exact fin_sub (List.nil_sublist _) (.refl _) ⟨.nil, by rw [this]; rfl, rfl, by rw [this]; rfl⟩
    | some u2 =>
    have hgood : pairB x = true := by rw [hpB, h1, h2]; rfl
    simp [e6, e24, hm1, hm2, putA, hstep]
    refine hN _ _ _ _ h (sub_one _ _) ⟨by simp [upd, e22], by simp [upd, e23], by simp [upd], o ++ [pairA x], _, by rw [hnext]; simp [pairOf, hgood], by simp [upd]; rfl, by simp [TPair.enc]⟩
  · have h1 : i = b.list.length := by omega
    subst h1
    rw [List.take_length] at ho
    rw [ho] at hpar
    simp only [Option.bind_some] at hpar
    simp [e6, e22, e23, e24]
    refine call_fn (impl_pairs (s := .mk t o) (by simp; unfold mx; omega)) (.cons (view_ref (by simp) rfl fun x _ => TPair.cells x) .nil) .bool fun _ _ => ?_
    cases hk : okP o
    · simp [hk, e6]
      rw [hk] at hpar
      simp at hpar
      exact fin_sub (List.nil_sublist _) (.refl _) ⟨.nil, by simp [hpar, SL.ref], by simp [SL.wood], by simp [hpar]⟩
    · simp [hk, e6]
      rw [hk] at hpar
      simp at hpar
      exact fin_sub (List.Sublist.refl _) (.refl _) ⟨.mk t o, by simp [hpar, SL.ref], by simp [flat_wood], by simp [hpar]⟩

/-! ### all pairs, of the reference -/
end A
end Go.Proofs.YtmhmaokbicgmbaaGreatDoor

/-
  ParseQuery and ParseCookies of both sides. No condition.
-/


namespace Go.Proofs.YtmhmaokbicgmbaaGreatDoor
namespace A
set_option linter.unusedVariables false
set_option linter.unusedSimpArgs false
set_option maxRecDepth 100000

def PrsQ (sep l : List UInt8) (r : AV) (O : List AObj) : Prop := ∃ b : SL TPair, r = .tup [b.ref 2, .bool (parseP sep l).isSome] ∧ O = b.wood 2 TPair.enc noInn ∧ b.list = (parseP sep l).getD []
theorem prs_list {sep l : List UInt8} : ((parseP sep l).getD []).length ≤ 12 ∧ szL TPair.sz ((parseP sep l).getD []) ≤ 1440 := by
  cases h : parseP sep l with
  | none => simp [szL]
  | some o => have := okP_sz (parseP_ok h); simp; omega
theorem prs_tr {f : Nat} {l sep : List UInt8} (h : ∀ c, Con Tryz.prog f [.str l] [] c fun r O _ => PrsQ sep l r O) :
    Tr Tryz.prog f [.str l] fun _ r => ∃ b : SL TPair, r = .tup [b.av 2 TPair.enc, .bool (parseP sep l).isSome] ∧ b.list = (parseP sep l).getD [] := by
  have := flat_tr2 (P := Tryz.prog) (w := 2) (f := f) (args := [.str l]) (Q := fun b x => x = [.bool (parseP sep l).isSome] ∧ b.list = (parseP sep l).getD []) TPair.flat'
    (fun b x hq a ha => by rw [hq.1] at ha; simp at ha; subst ha; exact free_bool _) fun c => (h c).mono fun r O c' _ ⟨b, h1, h2, h3⟩ => ⟨b, _, h1, h2, rfl, h3⟩
  intro c
  refine (this c).mono fun r O c' _ ⟨h1, ⟨b, x, h2, h3, h4⟩, h5⟩ => ⟨h1, ⟨b, by rw [h2, h3], h4⟩, h5⟩
theorem impl_Query {l : List UInt8} (hl : l.length ≤ 1048576) (c : Nat) : Con Tryz.prog 19 [.str l] [] c fun r O _ => PrsQ [38] l r O := by
  refine con_of c19 (by simp [F19]) ?_
  unfold F19
  simp
  refine call_con (implParse_con hl (by simp) _) fun r O c' hc ⟨b, e1, e2, e3⟩ _ _ => ?_
  subst e1; subst e2
  refine ⟨free_tup (by simp [free_bool, free_ref]) _, fun o ho => flat_free TPair.flat' _ _ o ho _, ?_⟩
  simp
  exact fin_all ⟨b, rfl, rfl, e3⟩
theorem impl_Cookies {l : List UInt8} (hl : l.length ≤ 1048576) (c : Nat) : Con Tryz.prog 21 [.str l] [] c fun r O _ => PrsQ [59, 32] l r O := by
  refine con_of c21 (by simp [F21]) ?_
  unfold F21
  simp
  refine call_con (implParse_con hl (by simp) _) fun r O c' hc ⟨b, e1, e2, e3⟩ _ _ => ?_
  subst e1; subst e2
  refine ⟨free_tup (by simp [free_bool, free_ref]) _, fun o ho => flat_free TPair.flat' _ _ o ho _, ?_⟩
  simp
  exact fin_all ⟨b, rfl, rfl, e3⟩
end A
end Go.Proofs.YtmhmaokbicgmbaaGreatDoor
