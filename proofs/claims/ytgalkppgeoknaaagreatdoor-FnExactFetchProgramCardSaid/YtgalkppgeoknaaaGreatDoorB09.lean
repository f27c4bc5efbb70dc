import Derived.Test.YtgalkppgeoknaaaGreatDoorB08

/-
  Values read: an array of the program's reader. No condition.
-/
set_option linter.unusedVariables false
set_option linter.unusedSimpArgs false
namespace Go.Proofs.YtgalkppgeoknaaaGreatDoor
namespace A
set_option linter.unusedVariables false
set_option linter.unusedSimpArgs false
set_option maxRecDepth 100000
def retO (t : Nat) : AObj := ⟨false,t,5,[[.int .i64 0,.int .i64 0,.str [],.int .i64 0,.nsl]]⟩
def arrO (t : Nat) (nx : Int) (X : AV) : AObj := ⟨false,t,5,[[.int .i64 4,.int .i64 0,.str [],.int .i64 nx,X]]⟩
def arrV (nx : Int) (I : SL (TKey × TValue)) : TValue := .mk 4 0 [] nx I
theorem arrV_sz (nx : Int) (I : SL (TKey × TValue)) : (arrV nx I).sz = I.list.length + szL szE I.list := by rw [arrV,TValue.sz_mk]; simp
def ItemsAt (c : Nat) (X : AV) (L : List (TKey × TValue)) (M : List AObj) : Prop := (L = [] ∧ X = .nsl ∧ M = []) ∨ ∃ o1 o2 o3 tj rows n,c ≤ tj ∧ X = .ref 6 tj 8 n ∧ n = L.length ∧ M = [o1,o2,o3,⟨false,tj,8,rows⟩] ∧ rows = L.map encE
def FL (c : Nat) (L : List (TKey × TValue)) : Prop := ∀ e,e ∈ L → ∀ a,a ∈ encE e → From c a
theorem from_in {c : Nat} {l : List AV} (h : From c (.agg l)) : ∀ a,a ∈ l → From c a := fun a ha T hT => by
  obtain ⟨j,hj⟩ := List.mem_iff_getElem?.1 ha
  cases h T hT with
  | agg h => exact h j a hj
theorem FL.step {c : Nat} {L : List (TKey × TValue)} {k : TKey} {v : TValue} (h : FL c L) (hv : From c (.agg v.enc)) : FL c (L ++ [(k,v)]) := fun e he a ha => by
  rcases List.mem_append.1 he with he | he
  · exact h e he a ha
  · rw [List.mem_singleton.1 he] at ha
    simp only [encE,TKey.enc,List.mem_append,List.mem_cons,List.not_mem_nil,or_false] at ha
    rcases ha with (rfl | rfl | rfl) | ha
    · exact fun _ _ => .bool
    · exact fun _ _ => .int
    · exact fun _ _ => .str
    · exact from_in hv a ha
theorem from_arr {c : Nat} {nx : Int} {P : Prop} (h : P) : From c (.agg [.int .i64 4,.int .i64 0,.str [],.int .i64 nx,.nsl]) := fun T hT => .agg fun j a ha => by
  have h1 := List.mem_of_getElem? ha
  simp at h1
  rcases h1 with rfl | rfl | rfl | rfl | rfl
  · exact .int
  · exact .int
  · exact .str
  · exact .int
  · exact .nsl
theorem from_arr2 {c tj : Nat} {nx : Int} {L : List (TKey × TValue)} (hc : c ≤ tj) (h : ∀ e,e ∈ L → ∀ a,a ∈ encE e → From c a) : From c (.agg [.int .i64 4,.int .i64 0,.str [],.int .i64 nx,(SL.mk tj L).av 8 encE]) := fun T hT => .agg fun j a ha => by
  have h1 := List.mem_of_getElem? ha
  simp at h1
  rcases h1 with rfl | rfl | rfl | rfl | rfl
  · exact .int
  · exact .int
  · exact .str
  · exact .int
  · exact from_slc hc (fun row hr a ha => by
      obtain ⟨e,he,rfl⟩ := List.mem_map.1 hr
      exact h e he a ha) T hT
theorem fin_arr {s : List UInt8} {t a c c' : Nat} {b : Bool} {nx : Int} {X : AV} {L : List (TKey × TValue)} {M : List AObj} {o1 o2 : AObj} {T : List AObj} {q : AV → Nat → Bool → Prop} (htc : t < c) (hM : ItemsAt c X L M) (hFL : ∀ e,e ∈ L → ∀ a,a ∈ encE e → From c a)
    (h : ∀ I : SL (TKey × TValue),I.list = L → q (.agg (arrV nx I).enc) a b) : finW (fun r O _ => RdQ c s t q r O) (.agg [.int .i64 4,.int .i64 0,.str [],.int .i64 nx,X]) (rdo s t a b :: o1 :: o2 :: (M ++ T)) c' := by
  rcases hM with ⟨rfl,rfl,rfl⟩ | ⟨p1,p2,p3,tj,rows,n,htj,rfl,rfl,rfl,rfl⟩
  · have e : (arrV nx .nil).enc = [.int .i64 4,.int .i64 0,.str [],.int .i64 nx,.nsl] := TValue.enc_mk _ _ _ _ _
    have hq := h .nil rfl
    rw [e] at hq
    exact fin_rd (a := a) (b := b) rfl (fun T hT => from_arr (fun e he => hFL e he) T hT) (.refl _) hq
  · have e : (arrV nx (.mk tj L)).enc = [.int .i64 4,.int .i64 0,.str [],.int .i64 nx,(SL.mk tj L).av 8 encE] := TValue.enc_mk _ _ _ _ _
    refine ⟨[⟨false,tj,8,L.map encE⟩],[rdo s t a b],[rdo s t a b],.agg (arrV nx (.mk tj L)).enc,by simp,.refl _ _,by simp,?_,?_,a,b,rfl,fun T hT => by rw [e]; exact from_arr2 htj (fun e he => hFL e he) T hT,h _ rfl⟩
    · simp [tags,rdo]; omega
    · rw [e]
      refine viewG (.cons (.refl _) (.cons (.refl _) (.cons (.refl _) (.cons (.refl _) (.cons (view_ref (by simp) rfl fun x _ => encE_cells x) .nil))))) fun a ha => ?_
      simp at ha
      rcases ha with rfl | rfl | rfl | rfl | rfl <;> rfl
theorem free_kb (k : TKey) (b : Bool) (T : List Nat) : Av T (.tup [.agg k.enc,.bool b]) := .tup fun j a ha => by
  have h1 := List.mem_of_getElem? ha
  simp at h1
  rcases h1 with rfl | rfl
  · exact free_key k T
  · exact .bool
set_option maxHeartbeats 4000000 in
theorem impl_arr {s : List UInt8} {d : Nat} (hs : s.length ≤ 1048576) (hd : d ≤ 200)
    (ih : ∀ (t a : Nat) (b : Bool) (c : Nat),a ≤ s.length → Con Tryz.prog 165 [.ptr 0 t 3 0 0,.int .i64 ((d + 1 : Nat) : Int)] [rdo s t a b] c fun r O _ => RdQ c s t (fun r a' b' => VlQ s a b (d + 1) r a' b') r O)
    {t a : Nat} (ha : a ≤ s.length) (c : Nat) : Con Tryz.prog 205 [.ptr 0 t 3 0 0,.int .i64 (d : Int)] [rdo s t a false] c fun r O _ => RdQ c s t (fun r a' b' => ArQ s a r a' b') r O := by
  refine con_lt fun hlt _ => ?_
  have htc : t < c := hlt t (by simp [tags,rdo])
  refine con_of c205 (by simp [F205]) ?_
  unfold F205
  have hdw : IntKind.i64.wrap ((d : Int) + 1) = ((d + 1 : Nat) : Int) := by rw [wrap64 (by omega) (by omega)]; omega
  have hcn := cntN_le s a
  have hu1 := untA_bnd 58 ha
  have hu2 := untA_bnd 123 hu1.2
  rw [irW_assoc,irW_assoc,irW_assoc]
  refine seq_cut (fun e H c' => ∃ (a2 n : Nat) (b2 : Bool) (nx : Int),H = [rdo s t a2 b2,retO c] ∧ e 0 = .ptr 0 t 3 0 0 ∧ e 1 = .int .i64 d ∧ e 4 = .ptr 1 c 5 0 0 ∧ e 5 = .int .i64 n ∧ e 6 = .int .i64 nx ∧ a ≤ a2 ∧ a2 ≤ s.length ∧ (b2 = false → n ≤ 200) ∧ c ≤ c' ∧ n ≤ 1000000000000) ?_ ?_
  rotate_left
  · intro K hK
    simp [rdo]
    refine call_rd (s := s) (t := t) (a := a) (b := false) rfl (impl_count hs ha _) fun r a1 b1 c1 hc1 hF ⟨h1,h2,h3⟩ => ?_
    subst h1 h2 h3
    simp [rdo]
    refine call_rd (s := s) (t := t) (a := untA s a 58) (b := cntB s a false) rfl (impl_until (x := 123) hs hu1.2 _) fun r a2 b2 c2 hc2 hF ⟨h1,h2,h3⟩ => ?_
    subst h1 h2 h3
    have hul := untS_len s (untA s a 58) 123
    simp [rdo]
    refine call_fn0 (parseInt_fn (by omega)) (free_ib _ _) fun _ _ => ?_
    generalize untA s (untA s a 58) 123 = a2 at *
    generalize untB s (untA s a 58) 123 (cntB s a false) = b2 at *
    generalize pwOk (untS s (untA s a 58) 123) 0 1000000000000 = po at *
    generalize (if po = true then atoiN (untS s (untA s a 58) 123) else 0) = nx at *
    generalize cntN s a = n at *
    cases po
    · simp [rdo,putA]
      exact hK _ _ _ ⟨a2,n,true,nx,rfl,by simp [upd],by simp [upd],by simp [upd],by simp [upd],by simp [upd],by omega,by omega,by simp,by omega,by omega⟩
    · by_cases hn : n ≤ 200
      · have hni : ¬ (200 : Int) < (n : Int) := by omega
        have hnn : ¬ 200 < n := by omega
        simp [rdo,putA,hni,hnn]
        exact hK _ _ _ ⟨a2,n,b2,nx,rfl,by simp [upd],by simp [upd],by simp [upd],by simp [upd],by simp [upd],by omega,by omega,fun _ => hn,by omega,by omega⟩
      · have hni : (200 : Int) < (n : Int) := by omega
        have hnn : 200 < n := by omega
        simp [rdo,putA,hni,hnn]
        exact hK _ _ _ ⟨a2,n,true,nx,rfl,by simp [upd],by simp [upd],by simp [upd],by simp [upd],by simp [upd],by omega,by omega,by simp,by omega,by omega⟩
  · intro e H c' ⟨a2,n,b2,nx,hH,e0,e1,e4,e5,e6,ha2,hal,hb2,hcc,hn12⟩
    subst hH
    rw [irW_assoc]
    refine seq_cut (fun e H c' => ∃ (L : List (TKey × TValue)) (X : AV) (M T : List AObj) (a1 tv : Nat) (b1 : Bool),H = rdo s t a1 b1 :: retO c :: arrO tv nx X :: (M ++ T) ∧ ItemsAt c X L M ∧ FL c L ∧ a2 + szL szE L + L.length ≤ a1 + (if b1 then 1 else 0) ∧ a1 ≤ s.length ∧ e 0 = .ptr 0 t 3 0 0 ∧ e 4 = .ptr 1 c 5 0 0 ∧ e 8 = .ptr 2 tv 5 0 0) ?_ ?_
    rotate_left
    · intro K hK
      simp [e0,e1,e4,e5,e6,retO,rdo,putA]
      refine loop_drop 200 (fun k e H c'' => ∃ (L : List (TKey × TValue)) (X : AV) (M : List AObj) (a1 : Nat) (b1 : Bool),H = rdo s t a1 b1 :: retO c :: arrO c' nx X :: M ∧ ItemsAt c X L M ∧ FL c L ∧ L.length = k ∧ a2 + szL szE L + L.length ≤ a1 + (if b1 then 1 else 0) ∧ a1 ≤ s.length ∧ (b1 = false → n ≤ 200) ∧ c' ≤ c'' ∧ e 0 = .ptr 0 t 3 0 0 ∧ e 1 = .int .i64 d ∧ e 4 = .ptr 1 c 5 0 0 ∧ e 5 = .int .i64 n ∧ e 8 = .ptr 2 c' 5 0 0 ∧ e 9 = .int .i64 k) ⟨[],.nsl,[],a2,b2,rfl,.inl ⟨rfl,rfl,rfl⟩,(fun e he => by simp at he),rfl,by simp [szL],hal,hb2,by omega,by simp [upd,e0],by simp [upd,e1],by simp [upd,e4],by simp [upd,e5],by simp [upd],by simp [upd]⟩ ?_
      clear e0 e1 e4 e5 e6 e
      intro k e H c2 hk ⟨L,X,M,a1,b1,hH,hX,hFL,hLk,hsz,ha1,hb1,hc2,e0,e1,e4,e5,e8,e9⟩ N hN
      subst hH
      by_cases hkn : k < n
      rotate_left
      · have hkn' : ¬ (k : Int) < (n : Int) := by omega
        simp [e0,e1,e4,e5,e8,e9,hkn,hkn']
        exact hK _ _ _ ⟨L,X,M,[],a1,c',b1,by simp,hX,hFL,hsz,ha1,by simp [upd,e0],by simp [upd,e4],by simp [upd,e8]⟩
      cases b1 with
      | true =>
        simp [e0,e1,e4,e5,e8,e9,hkn,rdo]
        exact hK _ _ _ ⟨L,X,M,[],a1,c',true,by simp [rdo],hX,hFL,hsz,ha1,by simp [upd,e0],by simp [upd,e4],by simp [upd,e8]⟩
      | false =>
      have hk200 : k < 200 := by have := hb1 rfl; omega
      simp only [Bool.false_eq_true,if_false,Nat.add_zero] at hsz
      rcases hX with ⟨rfl,rfl,rfl⟩ | ⟨p1,p2,p3,tj,rows,nn,htj,rfl,hnn,rfl,hrows⟩
      · simp [e0,e1,e4,e5,e8,e9,hkn,rdo,retO,arrO,hdw,-Int.natCast_add]
        refine call_rd (s := s) (t := t) (a := a1) (b := false) rfl (ih t a1 false c2 ha1) fun r a3 b3 c3 hc3 hF1 ⟨v1,hr,_,hz1,hl1,hb1',hi1,_⟩ => ?_
        subst hr
        have hs1 : v1.Str.length ≤ v1.sz := by rw [TValue.sz_eq]; omega
        simp [e0,e1,e4,e5,e8,e9,rdo,retO,arrO,-Int.natCast_add]
        refine call_fn0 (keyOf_fn (by omega)) (free_kb _ _ _) fun c4 hc4 => ?_
        have hkl := keyOf_len v1
        cases hko : keyOk v1
        · simp [e0,e1,e4,e5,e8,e9,rdo,retO,arrO,putA,-Int.natCast_add]
          exact fin_arr (T := [_]) htc (.inl ⟨rfl,rfl,rfl⟩) hFL fun I hI => ⟨arrV nx I,rfl,rfl,by rw [arrV_sz,hI]; simp [szL]; omega,hl1,by simp⟩
        · simp [e0,e1,e4,e5,e8,e9,rdo,retO,arrO,putA,hdw,-Int.natCast_add]
          refine call_rd (s := s) (t := t) (a := a3) (b := b3) rfl (ih t a3 b3 _ hl1) fun r a5 b5 c5 hc5 hF2 ⟨v2,hr,_,hz2,hl2,hb2',hi2,_⟩ => ?_
          subst hr
          have hg1 : (([] : List (TKey × TValue)).length + 1) * 96 ≤ 140737488355328 := by omega
          have hg2 : ([] : List (TKey × TValue)).length + 1 ≤ mx := by unfold mx; omega
          have hszn : a2 + szL szE ([(keyOf v1,v2)]) + ([(keyOf v1,v2)]).length ≤ a5 + (if b5 then 1 else 0) := by
            have e : szL szE ([(keyOf v1,v2)]) = ((keyOf v1).Str.length + v2.sz) := by simp [szL,szE]
            rw [e,List.length_singleton]
            cases b5 with
            | true => simp; omega
            | false =>
              have hb3 : b3 = false := by
                cases b3 with
                | false => rfl
                | true => exact absurd (hb2' rfl) (by simp)
              have := hi1 hb3
              simp
              omega
          simp [e0,e1,e4,e5,e8,e9,rdo,retO,arrO,putA,hg1,hg2,-Int.natCast_add]
          exact ⟨by unfold mx; omega,hN _ _ (List.take 7 _) _ hk200 (List.take_sublist 7 _) ⟨[(keyOf v1,v2)],_,_,a5,b5,rfl,.inr ⟨_,_,_,_,_,_,(by omega),rfl,by simp,rfl,by simp [encE]⟩,FL.step hFL (hF2.mono (by omega)),by simp [hLk],hszn,hl2,fun _ => hb1 rfl,by omega,by simp [upd,e0],by simp [upd,e1],by simp [upd,e4],by simp [upd,e5],by simp [upd,e8],by simp [upd]; exact step64 (n := 200) (by unfold mx; omega) hk200⟩⟩
      · simp [e0,e1,e4,e5,e8,e9,hkn,rdo,retO,arrO,hdw,-Int.natCast_add]
        subst hnn hrows
        refine call_rd (s := s) (t := t) (a := a1) (b := false) rfl (ih t a1 false c2 ha1) fun r a3 b3 c3 hc3 hF1 ⟨v1,hr,_,hz1,hl1,hb1',hi1,_⟩ => ?_
        subst hr
        have hs1 : v1.Str.length ≤ v1.sz := by rw [TValue.sz_eq]; omega
        simp [e0,e1,e4,e5,e8,e9,rdo,retO,arrO,-Int.natCast_add]
        refine call_fn0 (keyOf_fn (by omega)) (free_kb _ _ _) fun c4 hc4 => ?_
        have hkl := keyOf_len v1
        cases hko : keyOk v1
        · simp [e0,e1,e4,e5,e8,e9,rdo,retO,arrO,putA,-Int.natCast_add]
          exact fin_arr (T := [_]) htc (.inr ⟨p1,p2,p3,tj,_,_,htj,rfl,rfl,rfl,rfl⟩) hFL fun I hI => ⟨arrV nx I,rfl,rfl,by rw [arrV_sz,hI]; omega,hl1,by simp⟩
        · simp [e0,e1,e4,e5,e8,e9,rdo,retO,arrO,putA,hdw,-Int.natCast_add]
          refine call_rd (s := s) (t := t) (a := a3) (b := b3) rfl (ih t a3 b3 _ hl1) fun r a5 b5 c5 hc5 hF2 ⟨v2,hr,_,hz2,hl2,hb2',hi2,_⟩ => ?_
          subst hr
          have hg1 : (L.length + 1) * 96 ≤ 140737488355328 := by omega
          have hg2 : L.length + 1 ≤ mx := by unfold mx; omega
          have hszn : a2 + szL szE (L ++ [(keyOf v1,v2)]) + (L ++ [(keyOf v1,v2)]).length ≤ a5 + (if b5 then 1 else 0) := by
            have e : szL szE (L ++ [(keyOf v1,v2)]) = szL szE L + ((keyOf v1).Str.length + v2.sz) := by simp [szL,szE]
            rw [e,List.length_append,List.length_singleton]
            cases b5 with
            | true => simp; omega
            | false =>
              have hb3 : b3 = false := by
                cases b3 with
                | false => rfl
                | true => exact absurd (hb2' rfl) (by simp)
              have := hi1 hb3
              simp
              omega
          simp [e0,e1,e4,e5,e8,e9,rdo,retO,arrO,putA,hg1,hg2,-Int.natCast_add]
          exact hN _ _ (List.take 7 _) _ hk200 (List.take_sublist 7 _) ⟨L ++ [(keyOf v1,v2)],_,_,a5,b5,rfl,.inr ⟨_,_,_,_,_,_,(by omega),rfl,by simp,rfl,by simp [encE]⟩,FL.step hFL (hF2.mono (by omega)),by simp [hLk],hszn,hl2,fun _ => hb1 rfl,by omega,by simp [upd,e0],by simp [upd,e1],by simp [upd,e4],by simp [upd,e5],by simp [upd,e8],by simp [upd]; exact step64 (n := 200) (by unfold mx; omega) hk200⟩
    · intro e H c2 ⟨L,X,M,T,a1,tv,b1,hH,hX,hFL,hsz,ha1,e0,e4,e8⟩
      subst hH
      cases b1 with
      | true =>
        simp [e0,e4,e8,rdo,retO,arrO,putA]
        refine fin_arr (T := T) htc hX hFL fun I hI => ⟨arrV nx I,rfl,rfl,?_,ha1,by simp⟩
        rw [arrV_sz,hI]
        simp only [if_true] at hsz
        omega
      | false =>
        simp only [Bool.false_eq_true,if_false,Nat.add_zero] at hsz
        simp [e0,e4,e8,rdo,retO,arrO,putA]
        refine call_rd (s := s) (t := t) (a := a1) (b := false) rfl (impl_eat (p := [125]) hs ha1 (by simp) _) fun r a3 b3 c3 hc3 hF ⟨hr,h3⟩ => ?_
        subst hr
        simp [e0,e4,e8,rdo,retO,arrO,putA]
        have h3' : a1 ≤ a3 ∧ a3 ≤ s.length := by
          split at h3
          · rename_i hp
            have := drop_pre (hasPre_len hp) ha1
            exact ⟨by omega,by omega⟩
          · exact ⟨by omega,by omega⟩
        refine fin_arr (T := T) htc hX hFL fun I hI => ⟨arrV nx I,rfl,rfl,?_,h3'.2,fun _ => ?_⟩
        · rw [arrV_sz,hI]; omega
        · rw [arrV_sz,hI]; omega
set_option maxRecDepth 100000
theorem sv_mk {v : TValue} (h : SV v) : v = mkV v.Kind v.Num v.Str := by
  have hI := h.2.2
  have h1 := h.1
  unfold isVal at h1
  rw [Bool.and_eq_true,pdec_iff] at h1
  have g := (gd_iff v).1 h1.2
  have hk := inR_iff2 h.2.1
  have hx := (g.x4 (by omega)).1
  cases v with
  | mk k n s x I =>
    simp only [TValue.Items,TValue.Next,TValue.Kind,TValue.Num,TValue.Str] at hI hx ⊢
    subst hI hx
    rfl
theorem sv_gd {v : TValue} (h : SV v) : Gd v := by
  have h1 := h.1
  unfold isVal at h1
  rw [Bool.and_eq_true,pdec_iff] at h1
  exact (gd_iff v).1 h1.2
theorem ser_cases {v : TValue} (h : SV v) : (v = mkV 0 0 [] ∧ ser v = [78,59]) ∨ (v = mkV 1 v.Num [] ∧ (v.Num = 0 ∨ v.Num = 1) ∧ ser v = 98 :: 58 :: (Lib.itoa v.Num ++ [59])) ∨ (v = mkV 2 v.Num [] ∧ inR v.Num (-1000000000) 1000000000 = true ∧ ser v = 105 :: 58 :: (Lib.itoa v.Num ++ [59])) ∨ (v = mkV 3 0 v.Str ∧ v.Str.length ≤ 400 ∧ ser v = 115 :: 58 :: (Lib.itoa v.Str.length ++ 58 :: (v.Str ++ [59]))) := by
  have e := sv_mk h
  have g := sv_gd h
  have hk := inR_iff2 h.2.1
  by_cases k0 : v.Kind = 0
  · refine .inl ⟨?_,by unfold ser; rw [if_pos k0]⟩
    have h1 := g.n0 k0
    have h2 := g.s3 (by omega)
    rw [k0,h1,h2] at e
    exact e
  by_cases k1 : v.Kind = 1
  · refine .inr (.inl ⟨?_,g.n1 k1,by unfold ser; rw [if_neg k0,if_pos k1]; simp⟩)
    have h2 := g.s3 (by omega)
    rw [k1,h2] at e
    exact e
  by_cases k2 : v.Kind = 2
  · refine .inr (.inr (.inl ⟨?_,g.n2 k2,by unfold ser; rw [if_neg k0,if_neg k1,if_pos k2]; simp⟩))
    have h2 := g.s3 (by omega)
    rw [k2,h2] at e
    exact e
  · have k3 : v.Kind = 3 := by omega
    have h2 := g.n3 k3
    refine .inr (.inr (.inr ⟨?_,h2.2,by unfold ser; rw [if_neg k0,if_neg k1,if_neg k2]; simp⟩))
    rw [k3,h2.1] at e
    exact e
theorem untGo_of {y : UInt8} : ∀ (l : List UInt8) (f k : Nat) {s r : List UInt8},s.drop k = l ++ y :: r → y ∉ l → l.length < f → untGo s y f k = some (k + l.length)
  | [],f,k,s,r,h,_,hf => by
    obtain ⟨g,rfl⟩ : ∃ g,f = g + 1 := ⟨f - 1,by simp at hf; omega⟩
    have hx : s[k]? = some y := by
      have := congrArg (fun l => l[0]?) h
      simpa using this
    rw [untGo,hx]
    simp
  | z :: l,f,k,s,r,h,hn,hf => by
    obtain ⟨g,rfl⟩ : ∃ g,f = g + 1 := ⟨f - 1,by simp at hf; omega⟩
    have hx : s[k]? = some z := by
      have := congrArg (fun l => l[0]?) h
      simpa using this
    have hd : s.drop (k + 1) = l ++ y :: r := by
      have := congrArg (fun l => l.drop 1) h
      simpa using this
    have hzy : ¬ z = y := fun e => hn (by simp [e])
    rw [untGo,hx]
    simp only
    rw [if_neg hzy,untGo_of l g (k + 1) hd (fun e => hn (List.mem_cons_of_mem _ e)) (by simp at hf; omega)]
    simp
    omega
theorem unt_of {s l r : List UInt8} {y : UInt8} {k : Nat} (h : s.drop k = l ++ y :: r) (hn : y ∉ l) (hl : l.length < 20) : untS s k y = l ∧ untA s k y = k + l.length + 1 ∧ ∀ b,untB s k y b = b := by
  have h1 : untO s k y = some (k + l.length) := untGo_of l 20 k h hn hl
  refine ⟨?_,?_,fun b => ?_⟩
  · unfold untS
    rw [h1]
    simp only
    rw [List.drop_take,h,Nat.add_sub_cancel_left]
    simp
  · unfold untA; rw [h1]
  · unfold untB; rw [h1]
theorem itoa_lt20 {n : Int} (h : -1000000000 ≤ n ∧ n ≤ 1000000000) : (Lib.itoa n).length < 20 := by
  have key : ∀ m,m ≤ 1000000000 → (Lib.decDigits m).length ≤ 10 := fun m hm => dd_len (k := 10) (by omega) (by omega)
  unfold Lib.itoa
  split
  · have := key n.natAbs (by omega)
    simp; omega
  · have := key n.toNat (by omega)
    omega
theorem itoa_no {n : Int} {y : UInt8} (hy : y.toNat = 58 ∨ y.toNat = 59) : y ∉ Lib.itoa n := fun h => by
  have key : ∀ m,y ∉ Lib.decDigits m := fun m hm => by
    have := List.all_eq_true.1 (dd_all m) y hm
    unfold dgt at this
    simp at this
    omega
  unfold Lib.itoa at h
  split at h
  · rcases List.mem_cons.1 h with h | h
    · rw [h] at hy; simp at hy
    · exact key _ h
  · exact key _ h
set_option maxHeartbeats 4000000 in
theorem impl_val1 {s : List UInt8} {d : Nat} (hs : s.length ≤ 1048576) (hd : d ≤ 201)
    (har : d ≤ 200 → ∀ (t a c : Nat),a ≤ s.length → Con Tryz.prog 205 [.ptr 0 t 3 0 0,.int .i64 (d : Int)] [rdo s t a false] c fun r O _ => RdQ c s t (fun r a' b' => ArQ s a r a' b') r O)
    (t a : Nat) (b : Bool) (c : Nat) (ha : a ≤ s.length) : Con Tryz.prog 165 [.ptr 0 t 3 0 0,.int .i64 (d : Int)] [rdo s t a b] c fun r O _ => RdQ c s t (fun r a' b' => VlQ s a b d r a' b') r O := by
  refine con_of c165 (by simp [F165]) ?_
  unfold F165
  have zero : ∀ {H : List AObj} {a' : Nat} {c' : Nat},H.head? = some (rdo s t a' true) → a ≤ a' → a' ≤ s.length → (∀ v0,SV v0 → b = false → d ≤ 200 → s.drop a = ser v0 → False) → finW (fun r O _ => RdQ c s t (fun r a' b' => VlQ s a b d r a' b') r O) (.agg [.int .i64 0,.int .i64 0,.str [],.int .i64 0,.nsl]) H c' := fun {H a' c'} hH h1 h2 h3 => by
    have e := mkV_enc 0 0 []
    refine fin_rd (a := a') (b := true) hH (by rw [← e]; exact from_mkV _ _ _ _) (.refl _) ⟨mkV 0 0 [],by rw [e],fun _ => rfl,by rw [mkV_sz]; simpa using h1,h2,by simp,by simp,fun v0 h4 h5 h7 h6 => (h3 v0 h4 h5 h7 h6).elim⟩
  have serne : ∀ v0,SV v0 → ∃ x y l,ser v0 = x :: y :: l := fun v0 h => by
    unfold ser
    split
    · exact ⟨_,_,_,rfl⟩
    · split
      · exact ⟨98,58,Lib.itoa v0.Num ++ [59],by simp⟩
      · split
        · exact ⟨105,58,Lib.itoa v0.Num ++ [59],by simp⟩
        · exact ⟨115,58,Lib.itoa v0.Str.length ++ 58 :: (v0.Str ++ [59]),by simp⟩
  by_cases hin : a < s.length
  rotate_left
  · have hin' : s.length ≤ a := by omega
    simp [rdo,putA,hin']
    exact zero (a' := a) rfl (Nat.le_refl _) ha fun v0 h4 h5 h7 h6 => by
      obtain ⟨x,y,l,e⟩ := serne v0 h4
      rw [e,List.drop_of_length_le hin'] at h6
      cases h6
  have hin' : ¬ s.length ≤ a := by omega
  by_cases hd2 : d ≤ 200
  rotate_left
  · have hd3 : (200 : Int) < (d : Int) := by omega
    have hd4 : 200 < d := by omega
    simp [rdo,putA,hin',hd3,hd4]
    exact zero (a' := a) rfl (Nat.le_refl _) ha fun v0 h4 h5 h7 h6 => hd2 h7
  have hd3 : ¬ (200 : Int) < (d : Int) := by omega
  have hd4 : ¬ 200 < d := by omega
  obtain ⟨x,hx⟩ : ∃ x,s[a]? = some x := ⟨_,List.getElem?_eq_getElem hin⟩
  have hdr : s.drop a = x :: s.drop (a + 1) := by rw [List.drop_eq_getElem_cons hin,(List.getElem?_eq_some_iff.1 hx).2]
  by_cases hN : x = 78
  · subst hN
    simp [rdo,putA,hin',hin,hd3,hd4,getW_of hx]
    refine call_rd (s := s) (t := t) (a := a) (b := b) rfl (impl_eat (p := [78,59]) hs ha (by simp) _) fun r a3 b3 c3 hc3 hF ⟨hr,h3⟩ => ?_
    subst hr
    simp [rdo]
    refine call_fn0 nullV_fn (free_mkV _ _ _ _) fun c4 hc4 => ?_
    have e := mkV_enc 0 0 []
    simp [putA]
    have hb3 : a ≤ a3 ∧ a3 ≤ s.length ∧ (b = true → b3 = true) ∧ (b3 = false → a + 1 ≤ a3) := by
      split at h3
      · rename_i hp
        have := drop_pre (hasPre_len hp) ha
        obtain ⟨rfl,rfl⟩ := h3
        exact ⟨by omega,by simpa using this,id,fun _ => by simp⟩
      · obtain ⟨rfl,rfl⟩ := h3
        exact ⟨by omega,ha,fun _ => rfl,by simp⟩
    refine fin_rd (a := a3) (b := b3) rfl (from_mkV _ _ _ _) (.refl _) ⟨mkV 0 0 [],rfl,fun _ => rfl,by rw [mkV_sz]; simpa using hb3.1,hb3.2.1,hb3.2.2.1,fun h => by rw [mkV_sz]; simpa using hb3.2.2.2 h,fun v0 h4 h5 h7 h6 => ?_⟩
    rcases ser_cases h4 with ⟨q1,q2⟩ | ⟨_,_,q2⟩ | ⟨_,_,q2⟩ | ⟨_,_,q2⟩
    · rw [h6,q2] at h3
      have hl2 := congrArg List.length h6
      rw [q2,List.length_drop] at hl2
      rw [if_pos (by decide)] at h3
      obtain ⟨rfl,rfl⟩ := h3
      exact ⟨q1.symm,by simp at hl2 ⊢; omega,h5⟩
    · rw [hdr,q2] at h6; cases h6
    · rw [hdr,q2] at h6; cases h6
    · rw [hdr,q2] at h6; cases h6
  have hxn' : ¬ x.toNat = 78 := fun h => hN (UInt8.toNat_inj.1 h)
  have hxn : ¬ (x.toNat : Int) = 78 := by omega
  simp [rdo,putA,hin',hin,hd3,hd4,getW_of hx,hxn,hxn']
  refine toStrW_ref (l := [x,58]) rfl rfl (by unfold mx; simp) ?_
  simp [rdo]
  refine call_rd (s := s) (t := t) (a := a) (b := b) rfl (impl_eat (p := [x,58]) hs ha (by simp) _) fun r a3 b3 c3 hc3 hF ⟨hr,h3⟩ => ?_
  subst hr
  have h2 : ∀ v0,SV v0 → s.drop a = ser v0 → hasPre (s.drop a) [x,58] = true := fun v0 h4 h6 => by
    rcases ser_cases h4 with ⟨_,q2⟩ | ⟨_,_,q2⟩ | ⟨_,_,q2⟩ | ⟨_,_,q2⟩
    · rw [hdr,q2] at h6
      exact absurd (List.cons.inj h6).1 hN
    all_goals
      have hx2 := hdr.symm.trans (h6.trans q2)
      rw [h6,q2,(List.cons.inj hx2).1]
      simp [hasPre]
  cases b3 with
  | true =>
    simp [rdo,putA]
    refine zero (a' := a3) rfl ?_ ?_ fun v0 h4 h5 h7 h6 => ?_
    · split at h3 <;> omega
    · split at h3
      · rename_i hp
        have := drop_pre (hasPre_len hp) ha
        rw [h3.1]; exact this
      · rw [h3.1]; exact ha
    · rw [if_pos (h2 v0 h4 h6)] at h3
      rw [← h3.2] at h5
      cases h5
  | false =>
  have hp : hasPre (s.drop a) [x,58] = true := by
    cases hh : hasPre (s.drop a) [x,58] with
    | true => rfl
    | false => rw [hh] at h3; simp at h3
  rw [if_pos hp] at h3
  obtain ⟨ha3,rfl⟩ := h3
  have hl2 : a + 2 ≤ s.length := drop_pre (hasPre_len hp) ha
  have ha3' : a3 = a + 2 := ha3
  subst ha3'
  clear ha3
  have hd2' : s.drop a = x :: 58 :: s.drop (a + 2) := by
    have e1 : (s.drop a).take 2 = [x,58] := of_decide_eq_true hp
    have e2 := List.take_append_drop 2 (s.drop a)
    rw [e1,List.drop_drop] at e2
    exact e2.symm
  have hua := untA_bnd 59 hl2
  have hul := untS_len s (a + 2) 59
  have num : ∀ (kk : Int),(x = 98 ∧ kk = 1 ∨ x = 105 ∧ kk = 2) → VlQ s a false d (.agg (mkV kk ((sgS (untS s (a + 2) 59)).getD 0) []).enc) (untA s (a + 2) 59) (untB s (a + 2) 59 false || !(sgS (untS s (a + 2) 59)).isSome) := fun kk hkk => by
    refine ⟨_,rfl,fun _ => rfl,by rw [mkV_sz]; simp; omega,hua.2,by simp,fun _ => by rw [mkV_sz]; simp; omega,fun v0 h4 _ _ h6 => ?_⟩
    have done : ∀ n : Int,-1000000000 ≤ n ∧ n ≤ 1000000000 → s.drop (a + 2) = Lib.itoa n ++ [59] → untS s (a + 2) 59 = Lib.itoa n ∧ untA s (a + 2) 59 = s.length ∧ untB s (a + 2) 59 false = false ∧ sgS (untS s (a + 2) 59) = some n := fun n hn hd => by
      have hlen := itoa_le (n := n) (by omega) (by omega)
      have h20 : (Lib.itoa n).length < 20 := itoa_lt20 hn
      obtain ⟨u1,u2,u3⟩ := unt_of (r := []) hd (itoa_no (.inr rfl)) h20
      have hl := congrArg List.length hd
      simp at hl
      exact ⟨u1,by rw [u2]; omega,u3 false,by rw [u1]; exact (sgS_iff _ _).2 ⟨rfl,hn.1,hn.2⟩⟩
    rcases ser_cases h4 with ⟨q1,q2⟩ | ⟨q1,q3,q2⟩ | ⟨q1,q3,q2⟩ | ⟨q1,q3,q2⟩
    · rw [hdr,q2] at h6
      exact absurd (List.cons.inj h6).1 hN
    · have hx2 := hd2'.symm.trans (h6.trans q2)
      have hx3 := (List.cons.inj hx2).1
      have hx4 := (List.cons.inj (List.cons.inj hx2).2).2
      rcases hkk with ⟨_,rfl⟩ | ⟨hk,_⟩
      · obtain ⟨d1,d2,d3,d4⟩ := done v0.Num (by rcases q3 with q | q <;> omega) hx4
        exact ⟨by rw [d4,q1]; rfl,d2,by rw [d3,d4]; rfl⟩
      · rw [hk] at hx3; simp at hx3
    · have hx2 := hd2'.symm.trans (h6.trans q2)
      have hx3 := (List.cons.inj hx2).1
      have hx4 := (List.cons.inj (List.cons.inj hx2).2).2
      rcases hkk with ⟨hk,_⟩ | ⟨_,rfl⟩
      · rw [hk] at hx3; simp at hx3
      · obtain ⟨d1,d2,d3,d4⟩ := done v0.Num (inR_iff2 q3) hx4
        exact ⟨by rw [d4,q1]; rfl,d2,by rw [d3,d4]; rfl⟩
    · have hx2 := hd2'.symm.trans (h6.trans q2)
      have hx3 := (List.cons.inj hx2).1
      rcases hkk with ⟨hk,_⟩ | ⟨hk,_⟩ <;> (rw [hk] at hx3; simp at hx3)
  by_cases h98 : x = 98
  · subst h98
    have hnum := num 1 (.inl ⟨rfl,rfl⟩)
    simp [rdo,-Int.natCast_add]
    refine call_rd (s := s) (t := t) (a := a + 2) (b := false) rfl (impl_until (x := 59) hs hl2 _) fun r a5 b5 c5 hc5 hF ⟨hr,e5,f5⟩ => ?_
    subst hr e5 f5
    simp [rdo,-Int.natCast_add]
    refine call_fn0 (implSigned_fn (by omega)) (free_ib _ _) fun _ _ => ?_
    generalize untB s (a + 2) 59 false = ub at *
    generalize (sgS (untS s (a + 2) 59)).isSome = ok at *
    generalize (sgS (untS s (a + 2) 59)).getD 0 = nn at *
    rw [mkV_enc] at hnum
    cases ub <;> cases ok <;> simp [rdo,putA,-Int.natCast_add] <;> exact fin_rd rfl (by rw [← mkV_enc]; exact from_mkV _ _ _ _) (.refl _) hnum
  by_cases h105 : x = 105
  · subst h105
    have hnum := num 2 (.inr ⟨rfl,rfl⟩)
    simp [rdo,-Int.natCast_add]
    refine call_rd (s := s) (t := t) (a := a + 2) (b := false) rfl (impl_until (x := 59) hs hl2 _) fun r a5 b5 c5 hc5 hF ⟨hr,e5,f5⟩ => ?_
    subst hr e5 f5
    simp [rdo,-Int.natCast_add]
    refine call_fn0 (implSigned_fn (by omega)) (free_ib _ _) fun _ _ => ?_
    generalize untB s (a + 2) 59 false = ub at *
    generalize (sgS (untS s (a + 2) 59)).isSome = ok at *
    generalize (sgS (untS s (a + 2) 59)).getD 0 = nn at *
    cases ub <;> cases ok <;> simp [rdo,putA,-Int.natCast_add] <;> refine call_fn0 (intV_fn _) (free_mkV _ _ _ _) (fun _ _ => ?_) <;> simp [putA] <;> exact fin_rd rfl (from_mkV _ _ _ _) (.refl _) hnum
  have head : ∀ v0,SV v0 → s.drop a = ser v0 → x = 78 ∨ x = 98 ∨ x = 105 ∨ x = 115 := fun v0 h4 h6 => by
    rcases ser_cases h4 with ⟨_,q2⟩ | ⟨_,_,q2⟩ | ⟨_,_,q2⟩ | ⟨_,_,q2⟩ <;> (have hx2 := (List.cons.inj (hdr.symm.trans (h6.trans q2))).1; simp [hx2])
  have g98 : ¬ x.toNat = 98 := fun h => h98 (UInt8.toNat_inj.1 h)
  have g98' : ¬ (x.toNat : Int) = 98 := by omega
  have g105 : ¬ x.toNat = 105 := fun h => h105 (UInt8.toNat_inj.1 h)
  have g105' : ¬ (x.toNat : Int) = 105 := by omega
  by_cases h115 : x = 115
  · subst h115
    have hu5 := untA_bnd 58 hl2
    have hc12 := cntN_le s (a + 2)
    have sfact : ∀ v0,SV v0 → s.drop a = ser v0 → cntB s (a + 2) false = false ∧ cntN s (a + 2) = v0.Str.length ∧ s.drop (untA s (a + 2) 58) = v0.Str ++ [59] ∧ v0 = mkV 3 0 v0.Str := fun v0 h4 h6 => by
      rcases ser_cases h4 with ⟨q1,q2⟩ | ⟨q1,q3,q2⟩ | ⟨q1,q3,q2⟩ | ⟨q1,q3,q2⟩
      · exact absurd (List.cons.inj (hdr.symm.trans (h6.trans q2))).1 (by simp)
      · exact absurd (List.cons.inj (hdr.symm.trans (h6.trans q2))).1 (by simp)
      · exact absurd (List.cons.inj (hdr.symm.trans (h6.trans q2))).1 (by simp)
      · have hx4 := (List.cons.inj (List.cons.inj (hd2'.symm.trans (h6.trans q2))).2).2
        have h20 : (Lib.itoa (v0.Str.length : Int)).length < 20 := itoa_lt20 (by omega)
        obtain ⟨u1,u2,u3⟩ := unt_of hx4 (itoa_no (.inl rfl)) h20
        have ha : Lib.atoiAll (Lib.itoa (v0.Str.length : Int)) = .ok (v0.Str.length : Int) := atoi_itoa (by omega) (by omega)
        have hat : atoiN (Lib.itoa (v0.Str.length : Int)) = v0.Str.length := by unfold atoiN; rw [ha]
        have hpw : pwOk (Lib.itoa (v0.Str.length : Int)) 0 1000000000000 = true := by
          unfold pwOk
          rw [hat]
          unfold atoiE
          rw [ha]
          simp
          omega
        refine ⟨?_,?_,?_,q1⟩
        · unfold cntB; rw [u1,u3,hpw]; rfl
        · unfold cntN; rw [u1,hpw,hat]; simp
        · rw [u2,Nat.add_assoc,← List.drop_drop,hx4]
          simp
    simp [rdo,-irW_alt,-Int.natCast_add]
    refine call_rd (s := s) (t := t) (a := a + 2) (b := false) rfl (impl_count hs hl2 _) fun r a5 b5 c5 hc5 hF ⟨hr,e5,f5⟩ => ?_
    subst hr e5 f5
    generalize cntN s (a + 2) = n at *
    generalize cntB s (a + 2) false = cb at *
    generalize untA s (a + 2) 58 = a5 at *
    cases cb with
    | true =>
      simp [rdo,putA,-irW_alt,-Int.natCast_add]
      exact zero (a' := a5) rfl (by omega) hu5.2 fun v0 h4 _ _ h6 => by
        have := (sfact v0 h4 h6).1
        cases this
    | false =>
    have hsub : IntKind.i64.wrap ((s.length : Int) - (a5 : Int)) = ((s.length - a5 : Nat) : Int) := by rw [wrap64 (by omega) (by omega)]; omega
    by_cases hnl : s.length - a5 < n
    · have hnl' : ((s.length - a5 : Nat) : Int) < (n : Int) := by omega
      simp [rdo,putA,hsub,hnl,hnl',-irW_alt,-Int.natCast_add]
      exact zero (a' := a5) rfl (by omega) hu5.2 fun v0 h4 _ _ h6 => by
        obtain ⟨_,q2,q3,_⟩ := sfact v0 h4 h6
        have := congrArg List.length q3
        simp at this
        omega
    have hnl' : ¬ ((s.length - a5 : Nat) : Int) < (n : Int) := by omega
    simp [rdo,putA,hsub,hnl,hnl',-irW_alt,-Int.natCast_add]
    have hadd : IntKind.i64.wrap ((a5 : Int) + (n : Int)) = ((a5 + n : Nat) : Int) := by rw [wrap64 (by omega) (by omega)]; omega
    have hle2 : a5 + n ≤ s.length := by omega
    refine alt_cut (fun e H c' => ∃ t9,e 0 = .ptr 0 t 3 0 0 ∧ e 4 = .ptr 1 c 5 0 0 ∧ e 8 = .int .i64 n ∧ e 9 = .ptr 3 t9 5 0 0 ∧ e 120 = .agg (mkV 3 0 ((s.take (a5 + n)).drop a5)).enc ∧ H = [rdo s t a5 false,retO c,⟨false,c + 1,1,[[.int .u8 115],[.int .u8 58]]⟩,⟨false,t9,5,[[.int .i64 0,.int .i64 0,.str [],.int .i64 0,.nsl]]⟩]) ?_ ?_
    rotate_left
    · intro K5 hK5
      simp [hadd,hle2,-Int.natCast_add]
      repeat' first
        | apply And.intro
        | (refine call_fn0 (textV_fn _) (free_mkV _ _ _ _) fun _ _ => ?_
           simp [hadd,hle2,-Int.natCast_add])
        | exact hK5 _ _ _ ⟨_,by simp [upd],by simp [upd],by simp [upd],by simp [upd],by simp [upd],rfl⟩
    intro e H c9 ⟨t9,f0,f4,f8,f9,f120,hH⟩
    subst hH
    simp [f0,f4,f8,f9,f120,rdo,retO,putA,hadd,-irW_alt,-Int.natCast_add]
    refine call_rd (s := s) (t := t) (a := a5 + n) (b := false) rfl (impl_eat (p := [59]) hs hle2 (by simp) _) fun r a6 b6 c6 hc6 hF ⟨hr,h6'⟩ => ?_
    subst hr
    simp [f0,f4,f8,f9,f120,rdo,retO,putA,-irW_alt,-Int.natCast_add]
    have hsl : ((s.take (a5 + n)).drop a5).length = n := by simp; omega
    have hb6 : a5 + n ≤ a6 ∧ a6 ≤ s.length := by
      split at h6'
      · rename_i hp6
        have := drop_pre (hasPre_len hp6) hle2
        exact ⟨by omega,by rw [h6'.1]; exact this⟩
      · exact ⟨by omega,by omega⟩
    refine fin_rd (a := a6) (b := b6) rfl (from_mkV _ _ _ _) (.refl _) ⟨mkV 3 0 ((s.take (a5 + n)).drop a5),rfl,fun _ => rfl,by rw [mkV_sz,hsl]; omega,hb6.2,by simp,fun _ => by rw [mkV_sz,hsl]; omega,fun v0 h4 _ _ h6 => ?_⟩
    obtain ⟨_,q2,q3,q4⟩ := sfact v0 h4 h6
    have hd6 : s.drop (a5 + n) = [59] := by
      rw [← List.drop_drop,q3,q2]
      simp
    rw [hd6] at h6'
    rw [if_pos (by decide)] at h6'
    have hl6 := congrArg List.length hd6
    simp at hl6
    refine ⟨?_,by rw [h6'.1]; simp; omega,h6'.2⟩
    rw [q4]
    congr 1
    rw [List.drop_take,q3,Nat.add_sub_cancel_left,q2]
    simp
  have g115 : ¬ x.toNat = 115 := fun h => h115 (UInt8.toNat_inj.1 h)
  have g115' : ¬ (x.toNat : Int) = 115 := by omega
  by_cases h97 : x = 97
  · subst h97
    simp [rdo,-irW_alt,-Int.natCast_add]
    refine call_rd (s := s) (t := t) (a := a + 2) (b := false) rfl (har hd2 t (a + 2) _ hl2) fun r a5 b5 c5 hc5 hF ⟨v,hr,k4,z1,l1,i1⟩ => ?_
    subst hr
    simp [rdo,putA,-Int.natCast_add]
    exact fin_rd (a := a5) (b := b5) rfl (hF.mono (by omega)) (.refl _) ⟨v,rfl,fun h => absurd k4 h,by omega,l1,by simp,fun h => by have := i1 h; omega,fun v0 h4 _ _ h6 => by
      rcases head v0 h4 h6 with h | h | h | h <;> simp at h⟩
  have g97 : ¬ x.toNat = 97 := fun h => h97 (UInt8.toNat_inj.1 h)
  have g97' : ¬ (x.toNat : Int) = 97 := by omega
  simp [rdo,putA,g98,g98',g105,g105',g115,g115',g97,g97',-irW_alt,-Int.natCast_add]
  exact zero (a' := a + 2) rfl (by omega) hl2 fun v0 h4 _ _ h6 => by
    rcases head v0 h4 h6 with h | h | h | h
    · exact hN h
    · exact h98 h
    · exact h105 h
    · exact h115 h
theorem impl_val {s : List UInt8} (hs : s.length ≤ 1048576) : ∀ k d : Nat,d + k = 201 → ∀ (t a : Nat) (b : Bool) (c : Nat),a ≤ s.length → Con Tryz.prog 165 [.ptr 0 t 3 0 0,.int .i64 (d : Int)] [rdo s t a b] c fun r O _ => RdQ c s t (fun r a' b' => VlQ s a b d r a' b') r O
  | 0,d,hk => impl_val1 hs (by omega) fun h => absurd h (by omega)
  | k + 1,d,hk => impl_val1 hs (by omega) fun h t a c ha => impl_arr hs h (fun t a b c ha => impl_val hs k (d + 1) (by omega) t a b c ha) ha c
set_option maxRecDepth 100000
@[simp] theorem bRow0 (b : UInt8) (K : AV → Prop) : getW (byteRow b) 0 K = K (.int .u8 b.toNat) := by simp [byteRow]
def wd (b : List UInt8) (i : Nat) : Nat → Nat
  | 0 => 0
  | k + 1 => wd b i k * 256 + (b.getD (i + k) 0).toNat
set_option maxRecDepth 100000
def rdGo (b : List UInt8) (at_ : Nat) : Nat → Nat → Nat → Option (Nat × Nat)
  | 0,_,_ => none
  | f + 1,k,n =>
    match b[at_ + k]? with
    | none => none
    | some x => if x.toNat < 128 then (if (x.toNat = 0 ∧ 0 < k) ∨ 1000000000000 < n + x.toNat % 128 * 128 ^ k then none else some (n + x.toNat % 128 * 128 ^ k,at_ + k + 1)) else rdGo b at_ f (k + 1) (n + x.toNat % 128 * 128 ^ k)
def rdN (b : List UInt8) (at_ : Nat) : Option (Nat × Nat) := rdGo b at_ 6 0 0
theorem rdGo_bnd {b : List UInt8} {at_ : Nat} : ∀ (f k n : Nat) {r : Nat × Nat},rdGo b at_ f k n = some r → r.1 ≤ 1000000000000 ∧ at_ < r.2 ∧ r.2 ≤ b.length
  | 0,_,_,_,h => by cases h
  | f + 1,k,n,r,h => by
    rw [rdGo] at h
    cases hx : b[at_ + k]? with
    | none => rw [hx] at h; cases h
    | some x =>
      rw [hx] at h
      have hl := (List.getElem?_eq_some_iff.1 hx).1
      simp only at h
      split at h
      · split at h
        · cases h
        · rename_i hc
          cases h
          exact ⟨by omega,by omega,by omega⟩
      · exact rdGo_bnd f (k + 1) _ h
theorem rdN_bnd {b : List UInt8} {at_ : Nat} {r : Nat × Nat} (h : rdN b at_ = some r) : r.1 ≤ 1000000000000 ∧ at_ < r.2 ∧ r.2 ≤ b.length := rdGo_bnd 6 0 0 h
def rdNA (o : Option (Nat × Nat)) : AV := match o with | none => .tup [.int .i64 0,.int .i64 0,.bool false] | some (n,x) => .tup [.int .i64 n,.int .i64 x,.bool true]
def rdT (b : List UInt8) (at_ : Nat) : Option (List UInt8 × Nat) := match rdN b at_ with | none => none | some (n,x) => if n ≤ b.length - x then some ((b.drop x).take n,x + n) else none
def rdTA (o : Option (List UInt8 × Nat)) : AV := match o with | none => .tup [.str [],.int .i64 0,.bool false] | some (s,x) => .tup [.str s,.int .i64 x,.bool true]
theorem rdT_bnd {b : List UInt8} {at_ : Nat} {r : List UInt8 × Nat} (h : rdT b at_ = some r) : r.1.length ≤ b.length ∧ at_ < r.2 ∧ r.2 ≤ b.length ∧ at_ + r.1.length < r.2 + 1 := by
  unfold rdT at h
  cases hn : rdN b at_ with
  | none => rw [hn] at h; cases h
  | some q =>
    rw [hn] at h
    obtain ⟨h1,h2,h3⟩ := rdN_bnd hn
    simp only at h
    split at h
    · rename_i hc
      cases h
      simp
      omega
    · cases h
theorem pow7 (k : Nat) : (2 : Int) ^ (7 * k) = ((128 ^ k : Nat) : Int) := by
  have h : (2 : Nat) ^ (7 * k) = 128 ^ k := by rw [Nat.pow_mul]
  rw [← h,Int.natCast_pow]; rfl
theorem pow128 {k : Nat} (h : k < 6) : 128 ^ k ≤ 34359738368 := Nat.le_trans (Nat.pow_le_pow_right (by omega) (show k ≤ 5 by omega)) (by decide)
theorem shlK {m k : Nat} (hm : m < 128) (hk : k < 6) (K : AV → Prop) : binW .shl (.int .i64 (m : Int)) (.int .i64 (7 * (k : Int))) K = K (.int .i64 ((m * 128 ^ k : Nat) : Int)) := by
  have h1 : min (7 * (k : Int)).toNat IntKind.i64.bits = 7 * k := by
    have : IntKind.i64.bits = 64 := rfl
    omega
  have hp := pow128 hk
  have hq : m * 128 ^ k ≤ 127 * 128 ^ k := Nat.mul_le_mul_right _ (by omega)
  have e : binW .shl (.int .i64 (m : Int)) (.int .i64 (7 * (k : Int))) K = ((0 : Int) ≤ 7 * (k : Int) ∧ K (.int .i64 (IntKind.i64.wrap ((m : Int) * 2 ^ (min (7 * (k : Int)).toNat IntKind.i64.bits))))) := rfl
  rw [e,h1,pow7,← Int.natCast_mul,wrap64 (by omega) (by omega)]
  have h0 : (0 : Int) ≤ 7 * (k : Int) := by omega
  simp only [h0,true_and]
theorem orShl {n m k : Nat} (hn : n < 128 ^ k) (hm : m < 128) (hk : k < 6) : orN (n : Int) ((m * 128 ^ k : Nat) : Int) = ((n + m * 128 ^ k : Nat) : Int) := by
  have hp := pow128 hk
  have hq : m * 128 ^ k ≤ 127 * 128 ^ k := Nat.mul_le_mul_right _ (by omega)
  rw [orN_nat (by omega) (by omega)]
  have h2 : (128 : Nat) ^ k = 2 ^ (7 * k) := by rw [Nat.pow_mul]
  have h3 := Nat.two_pow_add_eq_or_of_lt (i := 7 * k) (b := n) (by rw [← h2]; exact hn) m
  rw [Nat.or_comm,h2,Nat.mul_comm m,← h3,Nat.add_comm]
set_option maxHeartbeats 1000000 in
theorem impl_rdN {s : SL UInt8} {a : Nat} (hl : s.list.length ≤ 1099511627776) (ha : a ≤ 1099511627776) : Fnc Tryz.prog 125 [s.av 1 byteRow,.int .i64 a] (rdNA (rdN s.list a)) := by
  refine fn_of c125 (by simp [F125]) fun c => ?_
  unfold F125
  generalize hb : s.list = b at *
  have hneg : ¬ (a : Int) < 0 := by omega
  simp [hneg]
  refine loop_drop 6 (fun k e H c' => ∃ n m : Nat,m = a + k ∧ e 0 = s.av 1 byteRow ∧ e 1 = .int .i64 m ∧ e 7 = .int .i64 n ∧ e 8 = .int .i64 k ∧ n < 128 ^ k ∧ rdN b a = rdGo b a (6 - k) k n ∧ H = []) ⟨0,a,by omega,rfl,rfl,rfl,rfl,by simp,rfl,rfl⟩ ?_
  intro k e H c' hk ⟨n,m,hm,e0,e1,e7,e8,hn,hr,hH⟩ N hN
  subst hH
  by_cases hk6 : k < 6
  rotate_left
  · have hke : k = 6 := by omega
    subst hke
    simp [e8]
    exact fin_plain ⟨by rw [hr]; rfl,rfl⟩
  have hk6' : (k : Int) < 6 := by omega
  have h6 : 6 - k = (5 - k) + 1 := by omega
  rw [h6,rdGo,← hm] at hr
  by_cases hin : m < b.length
  rotate_left
  · have hx : b[m]? = none := List.getElem?_eq_none (by omega)
    rw [hx] at hr
    have hle : b.length ≤ m := by omega
    have hle' : (b.length : Int) ≤ (m : Int) := by omega
    simp [e0,e1,e7,e8,hb,hk6',hle,hle']
    exact fin_plain ⟨by rw [hr]; rfl,rfl⟩
  obtain ⟨x,hx⟩ : ∃ x,b[m]? = some x := ⟨_,List.getElem?_eq_getElem hin⟩
  rw [hx] at hr
  simp only at hr
  have hle : ¬ b.length ≤ m := by omega
  have hle' : ¬ (b.length : Int) ≤ (m : Int) := by omega
  have hp := pow128 hk6
  have hxl := x.toNat_lt
  have hq : x.toNat % 128 * 128 ^ k ≤ 127 * 128 ^ k := Nat.mul_le_mul_right _ (by omega)
  have hps : 128 ^ (k + 1) = 128 ^ k * 128 := Nat.pow_succ ..
  have hr128 : ((x.toNat : Int)).tmod 128 = ((x.toNat % 128 : Nat) : Int) := by rw [Int.tmod_eq_emod_of_nonneg (by omega)]; omega
  have h7 : IntKind.i64.wrap (7 * (k : Int)) = 7 * (k : Int) := wrap64 (by omega) (by omega)
  have hsh := fun K => shlK (m := x.toNat % 128) (k := k) (by omega) hk6 K
  have hm1 : IntKind.i64.wrap ((m : Int) + 1) = ((m + 1 : Nat) : Int) := by rw [wrap64 (by omega) (by omega)]; omega
  generalize hM : x.toNat % 128 * 128 ^ k = M at hr hq hsh
  have hs : IntKind.i64.wrap ((n : Int) + (M : Int)) = ((n + M : Nat) : Int) := by rw [wrap64 (by omega) (by omega)]; omega
  by_cases hc : x.toNat < 128
  · have hc' : (x.toNat : Int) < 128 := by omega
    rw [if_pos hc] at hr
    by_cases hx0 : x.toNat = 0
    · have hM0 : M = 0 := by rw [← hM,hx0]; simp
      subst hM0
      have w0 : IntKind.i64.wrap 0 = 0 := by decide
      have s0 : ∀ K,binW .shl (.int .i64 0) (.int .i64 (7 * (k : Int))) K = K (.int .i64 0) := fun K => by
        have := shlK (m := 0) (by omega) hk6 K
        rw [Nat.zero_mul] at this
        exact this
      have hs0 : IntKind.i64.wrap (n : Int) = (n : Int) := wrap64 (by omega) (by omega)
      by_cases hk0 : k = 0
      · subst hk0
        have s00 : ∀ K,binW .shl (.int .i64 0) (.int .i64 0) K = K (.int .i64 0) := fun K => s0 K
        have hn0 : n = 0 := by simpa using hn
        subst hn0
        rw [if_neg (by rintro (h | h); exact absurd h.2 (by omega); omega)] at hr
        simp [e0,e1,e7,e8,hb,hle,hin,getW_of hx,h7,s0,s00,w0,hm1,hx0,-Int.natCast_add]
        exact fin_plain ⟨by rw [hr]; rfl,rfl⟩
      · have hz2 : (0 : Int) < (k : Int) := by omega
        have hz3 : 0 < k := by omega
        rw [if_pos (.inl ⟨hx0,hz3⟩)] at hr
        simp [e0,e1,e7,e8,hb,hk6',hle,hin,getW_of hx,h7,s0,w0,hs0,hm1,hx0,hz2,hz3,-Int.natCast_add]
        exact fin_plain ⟨by rw [hr]; rfl,rfl⟩
    by_cases hbg : 1000000000000 < n + M
    · have hbg' : (1000000000000 : Int) < ((n + M : Nat) : Int) := by omega
      rw [if_pos (.inr hbg)] at hr
      simp [e0,e1,e7,e8,hb,hk6',hle,hin,getW_of hx,hr128,h7,hsh,hm1,hs,hc',hc,hx0,hbg,hbg',wrap_b,-Int.natCast_emod,-Int.natCast_add]
      exact fin_plain ⟨by rw [hr]; rfl,rfl⟩
    · have hbg' : ¬ (1000000000000 : Int) < ((n + M : Nat) : Int) := by omega
      rw [if_neg (by rintro (h | h); exact hx0 h.1; exact hbg h)] at hr
      simp [e0,e1,e7,e8,hb,hk6',hle,hin,getW_of hx,hr128,h7,hsh,hm1,hs,hc',hc,hx0,hbg,hbg',wrap_b,-Int.natCast_emod,-Int.natCast_add]
      exact fin_plain ⟨by rw [hr]; rfl,rfl⟩
  · have hc' : ¬ (x.toNat : Int) < 128 := by omega
    rw [if_neg hc] at hr
    simp [e0,e1,e7,e8,hb,hk6',hle,hin,getW_of hx,hr128,h7,hsh,hm1,hs,hc',hc,wrap_b,-Int.natCast_emod,-Int.natCast_add]
    exact hN _ _ _ _ hk6 (List.Sublist.refl _) ⟨n + M,m + 1,by omega,by simp [upd,e0],by simp [upd,-Int.natCast_add],by simp [upd,-Int.natCast_add],by simp [upd]; exact step64 (by unfold mx; omega) hk6,by omega,by rw [hr,show 5 - k = 6 - (k + 1) by omega],rfl⟩
set_option maxRecDepth 100000
theorem spec_rdNneg {s : SL UInt8} (hl : s.list.length ≤ 1099511627776) : Fnc Tryz.prog 120 [s.av 1 byteRow,.int .i64 (-1)] (rdNA none) := by
  refine fn_of c120 (by simp [F120]) fun c => ?_
  unfold F120
  simp
  refine loop_drop 0 (fun k e H c' => e 0 = s.av 1 byteRow ∧ e 1 = .int .i64 (-1) ∧ e 8 = .int .i64 0 ∧ H = []) ⟨rfl,rfl,rfl,rfl⟩ ?_
  intro k e H c' hk ⟨e0,e1,e8,hH⟩ N hN
  subst hH
  simp [e0,e1,e8]
  exact fin_plain ⟨rfl,rfl⟩
set_option maxHeartbeats 1000000 in
theorem spec_rdN {s : SL UInt8} {a : Nat} (hl : s.list.length ≤ 1099511627776) (ha : a ≤ 1099511627776) : Fnc Tryz.prog 120 [s.av 1 byteRow,.int .i64 a] (rdNA (rdN s.list a)) := by
  refine fn_of c120 (by simp [F120]) fun c => ?_
  unfold F120
  generalize hb : s.list = b at *
  have hneg : ¬ (a : Int) < 0 := by omega
  simp
  refine loop_drop 6 (fun k e H c' => ∃ n : Nat,e 0 = s.av 1 byteRow ∧ e 1 = .int .i64 a ∧ e 7 = .int .i64 n ∧ e 8 = .int .i64 k ∧ n < 128 ^ k ∧ rdN b a = rdGo b a (6 - k) k n ∧ H = []) ⟨0,rfl,rfl,rfl,rfl,by simp,rfl,rfl⟩ ?_
  intro k e H c' hk ⟨n,e0,e1,e7,e8,hn,hr,hH⟩ N hN
  subst hH
  by_cases hk6 : k < 6
  rotate_left
  · have hke : k = 6 := by omega
    subst hke
    simp [e8]
    exact fin_plain ⟨by rw [hr]; rfl,rfl⟩
  have hk6' : (k : Int) < 6 := by omega
  have h6 : 6 - k = (5 - k) + 1 := by omega
  have hsub : IntKind.i64.wrap ((b.length : Int) - (k : Int)) = (b.length : Int) - (k : Int) := wrap64 (by omega) (by omega)
  have hadd : IntKind.i64.wrap ((a : Int) + (k : Int)) = ((a + k : Nat) : Int) := by rw [wrap64 (by omega) (by omega)]; omega
  rw [h6,rdGo] at hr
  by_cases hin : a + k < b.length
  rotate_left
  · have hx : b[a + k]? = none := List.getElem?_eq_none (by omega)
    rw [hx] at hr
    have hle' : (b.length : Int) - (k : Int) ≤ (a : Int) := by omega
    simp [e0,e1,e7,e8,hb,hk6',hneg,hsub,hle']
    exact fin_plain ⟨by rw [hr]; rfl,rfl⟩
  obtain ⟨x,hx⟩ : ∃ x,b[a + k]? = some x := ⟨_,List.getElem?_eq_getElem hin⟩
  rw [hx] at hr
  simp only at hr
  have hle' : ¬ (b.length : Int) - (k : Int) ≤ (a : Int) := by omega
  have hp := pow128 hk6
  have hxl := x.toNat_lt
  have hq : x.toNat % 128 * 128 ^ k ≤ 127 * 128 ^ k := Nat.mul_le_mul_right _ (by omega)
  have hps : 128 ^ (k + 1) = 128 ^ k * 128 := Nat.pow_succ ..
  have hand := and127 (n := x.toNat) (by omega)
  have h7 : IntKind.i64.wrap (7 * (k : Int)) = 7 * (k : Int) := wrap64 (by omega) (by omega)
  have hsh := fun K => shlK (m := x.toNat % 128) (k := k) (by omega) hk6 K
  have hor := orShl (m := x.toNat % 128) hn (by omega) hk6
  have hm1 : IntKind.i64.wrap (((a + k : Nat) : Int) + 1) = ((a + k + 1 : Nat) : Int) := by rw [wrap64 (by omega) (by omega)]; omega
  generalize hM : x.toNat % 128 * 128 ^ k = M at hr hq hsh hor
  generalize hm : a + k = m at hr hx hadd hm1 hin
  by_cases hc : x.toNat < 128
  · have hc' : (x.toNat : Int) < 128 := by omega
    rw [if_pos hc] at hr
    by_cases hx0 : x.toNat = 0
    · have hM0 : M = 0 := by rw [← hM,hx0]; simp
      subst hM0
      have w0 : IntKind.i64.wrap 0 = 0 := by decide
      have s0 : ∀ K,binW .shl (.int .i64 0) (.int .i64 (7 * (k : Int))) K = K (.int .i64 0) := fun K => by
        have := shlK (m := 0) (by omega) hk6 K
        rw [Nat.zero_mul] at this
        exact this
      have a0 : andN 0 127 = 0 := and127 (n := 0) (by omega)
      have o0 : orN (n : Int) 0 = (n : Int) := hor
      by_cases hk0 : k = 0
      · subst hk0
        have s00 : ∀ K,binW .shl (.int .i64 0) (.int .i64 0) K = K (.int .i64 0) := fun K => s0 K
        have hn0 : n = 0 := by simpa using hn
        subst hn0
        rw [if_neg (by rintro (h | h); exact absurd h.2 (by omega); omega)] at hr
        have hma : a = m := by omega
        subst hma
        have wl : IntKind.i64.wrap (b.length : Int) = (b.length : Int) := wrap64 (by omega) (by omega)
        have wa : IntKind.i64.wrap (a : Int) = (a : Int) := wrap64 (by omega) (by omega)
        have hlea : ¬ b.length ≤ a := by omega
        have o00 : orN 0 0 = 0 := o0
        simp [e0,e1,e7,e8,hb,hneg,wl,wa,hlea,hin,getW_of hx,intW_andN,intW_orN,h7,s0,s00,w0,a0,o0,o00,hm1,hx0,-Int.natCast_add]
        exact fin_plain ⟨by rw [hr]; rfl,rfl⟩
      · have hz2 : (0 : Int) < (k : Int) := by omega
        have hz3 : 0 < k := by omega
        rw [if_pos (.inl ⟨hx0,hz3⟩)] at hr
        simp [e0,e1,e7,e8,hb,hk6',hneg,hsub,hadd,hle',hin,getW_of hx,intW_andN,intW_orN,h7,s0,w0,a0,o0,hm1,hx0,hz2,hz3,-Int.natCast_add]
        exact fin_plain ⟨by rw [hr]; rfl,rfl⟩
    by_cases hbg : 1000000000000 < n + M
    · have hbg' : (1000000000000 : Int) < ((n + M : Nat) : Int) := by omega
      rw [if_pos (.inr hbg)] at hr
      simp [e0,e1,e7,e8,hb,hk6',hneg,hsub,hadd,hle',hin,getW_of hx,intW_andN,intW_orN,hand,h7,hsh,hor,hm1,hc',hc,hx0,hbg,hbg',wrap_b,-Int.natCast_emod,-Int.natCast_add]
      exact fin_plain ⟨by rw [hr]; rfl,rfl⟩
    · have hbg' : ¬ (1000000000000 : Int) < ((n + M : Nat) : Int) := by omega
      rw [if_neg (by rintro (h | h); exact hx0 h.1; exact hbg h)] at hr
      simp [e0,e1,e7,e8,hb,hk6',hneg,hsub,hadd,hle',hin,getW_of hx,intW_andN,intW_orN,hand,h7,hsh,hor,hm1,hc',hc,hx0,hbg,hbg',wrap_b,-Int.natCast_emod,-Int.natCast_add]
      exact fin_plain ⟨by rw [hr]; rfl,rfl⟩
  · have hc' : ¬ (x.toNat : Int) < 128 := by omega
    rw [if_neg hc] at hr
    simp [e0,e1,e7,e8,hb,hk6',hneg,hsub,hadd,hle',hin,getW_of hx,intW_andN,intW_orN,hand,h7,hsh,hor,hm1,hc',hc,wrap_b,-Int.natCast_emod,-Int.natCast_add]
    exact hN _ _ _ _ hk6 (List.Sublist.refl _) ⟨n + M,by simp [upd,e0],by simp [upd,e1],by simp [upd,-Int.natCast_add],by simp [upd]; exact step64 (by unfold mx; omega) hk6,by omega,by rw [hr,show 5 - k = 6 - (k + 1) by omega],rfl⟩
theorem av_tup3 {T : List Nat} {a b c : AV} (ha : Av T a) (hb : Av T b) (hc : Av T c) : Av T (.tup [a,b,c]) := .tup fun j x hx => by
  have h := List.mem_of_getElem? hx
  simp at h
  rcases h with rfl | rfl | rfl
  · exact ha
  · exact hb
  · exact hc
theorem free_rdN (o : Option (Nat × Nat)) {T : List Nat} : Av T (rdNA o) := by
  cases o with
  | none => exact av_tup3 .int .int .bool
  | some r => exact av_tup3 .int .int .bool
theorem free_rdT (o : Option (List UInt8 × Nat)) {T : List Nat} : Av T (rdTA o) := by
  cases o with
  | none => exact av_tup3 .str .int .bool
  | some r => exact av_tup3 .str .int .bool
theorem sliceStr {s : SL UInt8} {x n : Nat} (h : x + n ≤ s.list.length) (hp : 0 < s.list.length) {K : AV → Prop} {H : List AObj} (hm : s.list.length ≤ mx) (k : ∀ v,(∀ K' : AV → Prop,K' (.str ((s.list.drop x).take n)) → toStrW v H K') → K v) :
    slcSliceW 1 (s.av 1 byteRow) (some (.int .i64 (x : Int))) (some (.int .i64 ((x + n : Nat) : Int))) K := by
  cases s with
  | nil => simp at hp
  | mk t l =>
    refine ⟨rfl,by omega,by omega,?_,?_,?_⟩
    · show x ≤ (((x + n : Nat) : Int)).toNat
      omega
    · show (((x + n : Nat) : Int)).toNat ≤ (l.map byteRow).length
      simp at h ⊢; omega
    · refine k _ fun K' hk' => ?_
      refine ⟨rfl,(l.drop x).take n,?_,by simp at hm ⊢; omega,hk'⟩
      rw [Int.toNat_natCast,Int.toNat_natCast]
      simp [List.map_drop,List.map_take,List.drop_take]
set_option maxHeartbeats 1000000 in
theorem impl_rdT {s : SL UInt8} {a : Nat} (hl : s.list.length ≤ 1099511627776) (ha : a ≤ 1099511627776) : Fnc Tryz.prog 164 [s.av 1 byteRow,.int .i64 a,.int .i64 1000000000000] (rdTA (rdT s.list a)) := by
  refine fn_of c164 (by simp [F164]) fun c => ?_
  unfold F164
  simp
  refine call_fn0 (impl_rdN hl ha) (free_rdN _) fun c1 hc1 => ?_
  cases hn : rdN s.list a with
  | none =>
    have e : rdT s.list a = none := by unfold rdT; rw [hn]
    simp [rdNA]
    exact fin_plain ⟨by rw [e]; rfl,rfl⟩
  | some q =>
    obtain ⟨n,x⟩ := q
    obtain ⟨h1,h2,h3⟩ := rdN_bnd hn
    simp only at h1 h2 h3
    have hsub : IntKind.i64.wrap ((s.list.length : Int) - (x : Int)) = ((s.list.length - x : Nat) : Int) := by rw [wrap64 (by omega) (by omega)]; omega
    have hadd : IntKind.i64.wrap ((x : Int) + (n : Int)) = ((x + n : Nat) : Int) := by rw [wrap64 (by omega) (by omega)]; omega
    by_cases hc : n ≤ s.list.length - x
    · have e : rdT s.list a = some ((s.list.drop x).take n,x + n) := by unfold rdT; rw [hn]; simp only; rw [if_pos hc]
      have hc1' : ¬ (1000000000000 : Int) < (n : Int) := by omega
      have hc2 : ¬ ((s.list.length - x : Nat) : Int) < (n : Int) := by omega
      simp [rdNA,hsub,hadd,hc1',hc2,-Int.natCast_add]
      refine sliceStr (n := n) (H := []) (by omega) (by omega) (by unfold mx; omega) fun v hv => ?_
      simp
      refine hv _ ?_
      simp [hadd,-Int.natCast_add]
      exact fin_plain ⟨by rw [e]; rfl,rfl⟩
    · have e : rdT s.list a = none := by unfold rdT; rw [hn]; simp only; rw [if_neg hc]
      have hc2 : ((s.list.length - x : Nat) : Int) < (n : Int) := by omega
      by_cases hc1' : (1000000000000 : Int) < (n : Int)
      · simp [rdNA,hsub,hadd,hc1',-Int.natCast_add]
        exact fin_plain ⟨by rw [e]; rfl,rfl⟩
      · simp [rdNA,hsub,hadd,hc1',hc2,-Int.natCast_add]
        exact fin_plain ⟨by rw [e]; rfl,rfl⟩
set_option maxHeartbeats 1000000 in
theorem spec_rdT {s : SL UInt8} {a : Nat} (hl : s.list.length ≤ 1099511627776) (ha : a ≤ 1099511627776) : Fnc Tryz.prog 162 [s.av 1 byteRow,.int .i64 a,.int .i64 s.list.length] (rdTA (rdT s.list a)) := by
  refine fn_of c162 (by simp [F162]) fun c => ?_
  unfold F162
  simp
  refine call_fn0 (spec_rdN hl ha) (free_rdN _) fun c1 hc1 => ?_
  cases hn : rdN s.list a with
  | none =>
    have e : rdT s.list a = none := by unfold rdT; rw [hn]
    simp [rdNA]
    exact fin_plain ⟨by rw [e]; rfl,rfl⟩
  | some q =>
    obtain ⟨n,x⟩ := q
    obtain ⟨h1,h2,h3⟩ := rdN_bnd hn
    simp only at h1 h2 h3
    have hsub : IntKind.i64.wrap ((s.list.length : Int) - (x : Int)) = ((s.list.length - x : Nat) : Int) := by rw [wrap64 (by omega) (by omega)]; omega
    have hadd : IntKind.i64.wrap ((x : Int) + (n : Int)) = ((x + n : Nat) : Int) := by rw [wrap64 (by omega) (by omega)]; omega
    by_cases hc : n ≤ s.list.length - x
    · have e : rdT s.list a = some ((s.list.drop x).take n,x + n) := by unfold rdT; rw [hn]; simp only; rw [if_pos hc]
      have hc1' : ¬ (s.list.length : Int) < (n : Int) := by omega
      have hc2 : ¬ ((s.list.length - x : Nat) : Int) < (n : Int) := by omega
      simp [rdNA,hsub,hadd,hc1',hc2,-Int.natCast_add]
      refine sliceStr (n := n) (H := []) (by omega) (by omega) (by unfold mx; omega) fun v hv => ?_
      simp
      refine hv _ ?_
      simp [hadd,-Int.natCast_add]
      exact fin_plain ⟨by rw [e]; rfl,rfl⟩
    · have e : rdT s.list a = none := by unfold rdT; rw [hn]; simp only; rw [if_neg hc]
      have hc2 : ((s.list.length - x : Nat) : Int) < (n : Int) := by omega
      by_cases hc1' : (s.list.length : Int) < (n : Int)
      · simp [rdNA,hsub,hadd,hc1',-Int.natCast_add]
        exact fin_plain ⟨by rw [e]; rfl,rfl⟩
      · simp [rdNA,hsub,hadd,hc1',hc2,-Int.natCast_add]
        exact fin_plain ⟨by rw [e]; rfl,rfl⟩
set_option maxRecDepth 100000
def w6 (n : Int) : List UInt8 := (List.range 6).map fun j => UInt8.ofNat (n.toNat / 256 ^ (5 - j))
def wOk (n : Int) : Bool := decide (0 ≤ n) && decide (n < 281474976710656)
def unpack : List Int → Option (List UInt8)
  | [] => none
  | a :: t =>
    if 0 ≤ a ∧ a ≤ 24000 ∧ (t.length : Int) = (a + 5) / 6 ∧ t.all wOk = true ∧ ((t.flatMap w6).drop a.toNat).all (fun x => decide (x.toNat = 0)) = true then some ((t.flatMap w6).take a.toNat) else none
def UnpQ (l : List Int) (r : AV) : Prop := (∃ b,unpack l = some b ∧ ∃ s : SL UInt8,r = .tup [s.av 1 byteRow,.bool true] ∧ s.list = b) ∨ (unpack l = none ∧ ∃ s : SL UInt8,r = .tup [s.av 1 byteRow,.bool false] ∧ s.list = [])
theorem unpack_len {l : List Int} {b : List UInt8} (h : unpack l = some b) : b.length ≤ 24000 := by
  cases l with
  | nil => cases h
  | cons a t =>
    rw [unpack] at h
    split at h
    · rename_i hc
      cases h
      simp
      omega
    · cases h
theorem w6_len (n : Int) : (w6 n).length = 6 := by simp [w6]
theorem w6_step (n : Int) {j : Nat} (h : j < 6) : (w6 n).take (j + 1) = (w6 n).take j ++ [UInt8.ofNat (n.toNat / 256 ^ (5 - j))] := by
  have hl : j < (w6 n).length := by rw [w6_len]; exact h
  rw [List.take_succ_eq_append_getElem hl]
  congr 2
  simp [w6]
theorem shr8 {n : Nat} {j : Nat} (hj : j < 6) (K : AV → Prop) : binW .shr (.int .i64 (n : Int)) (.int .i64 (40 - 8 * (j : Int))) K = K (.int .i64 ((n / 256 ^ (5 - j) : Nat) : Int)) := by
  have h1 : min (40 - 8 * (j : Int)).toNat IntKind.i64.bits = 8 * (5 - j) := by
    have : IntKind.i64.bits = 64 := rfl
    omega
  have e : binW .shr (.int .i64 (n : Int)) (.int .i64 (40 - 8 * (j : Int))) K = ((0 : Int) ≤ 40 - 8 * (j : Int) ∧ K (.int .i64 ((n : Int).fdiv (2 ^ (min (40 - 8 * (j : Int)).toNat IntKind.i64.bits))))) := rfl
  have hp : (2 : Int) ^ (8 * (5 - j)) = ((256 ^ (5 - j) : Nat) : Int) := by
    have h : (2 : Nat) ^ (8 * (5 - j)) = 256 ^ (5 - j) := by rw [Nat.pow_mul]
    rw [← h,Int.natCast_pow]; rfl
  rw [e,h1,hp,Int.fdiv_eq_ediv_of_nonneg _ (Int.natCast_nonneg _),← Int.natCast_ediv]
  have h0 : (0 : Int) ≤ 40 - 8 * (j : Int) := by omega
  simp only [h0,true_and]
theorem u8nat (n : Nat) : IntKind.u8.wrap (n : Int) = ((UInt8.ofNat n).toNat : Int) := by
  rw [IntKind.wrap_u8]
  simp [UInt8.toNat_ofNat']
theorem view_cutB {α : Type} {enc : α → List AV} {S : List AObj} {i tag w n : Nat} {l : List α} (ho : (⟨false,tag,w,l.map enc⟩ : AObj) ∈ S) (hn : n ≤ l.length) (hc : ∀ x,x ∈ l → ∀ a,a ∈ enc x → a.cell = true) : View S (.ref i tag w n) ((SL.mk tag (l.take n)).av w enc) := by
  have same : ∀ (r : Nat) (x x' : List AV),(l.map enc)[r]? = some x → ((l.take n).map enc)[r]? = some x' → x' = x := fun r x x' h1 h2 => by
    rw [List.map_take,List.getElem?_take] at h2
    split at h2
    · rw [h1] at h2; cases h2; rfl
    · cases h2
  exact .ref ho (by simpa using hn) (by simp; omega) (fun r x x' h1 h2 => by rw [same r x x' h1 h2])
    (fun r j x a hx ha => by
      obtain ⟨y,hy,rfl⟩ := List.mem_map.1 (List.mem_of_getElem? hx)
      exact hc y (List.mem_of_mem_take hy) a (List.mem_of_getElem? ha))
    fun r j x x' a a' h1 h2 h3 h4 => by have := same r x x' h1 h2; subst this; rw [h3] at h4; cases h4; exact .refl _
theorem fin_cutB {l : List Int} {t c c' n : Nat} {m : List UInt8} {H : List AObj} (hc : c ≤ t) (hH : H.head? = some ⟨false,t,1,m.map byteRow⟩) (hn : n ≤ m.length) (hq : unpack l = some (m.take n)) : finW (fun r H' _ => H' = [] ∧ UnpQ l r ∧ From c r) (.tup [.ref 0 t 1 n,.bool true]) H c' := by
  cases H with
  | nil => simp at hH
  | cons a L =>
    simp at hH
    subst hH
    refine ⟨[⟨false,t,1,m.map byteRow⟩],[],[],.tup [(SL.mk t (m.take n)).av 1 byteRow,.bool true],by simp,.refl _ _,by simp,by simp [tags],?_,rfl,.inl ⟨_,hq,SL.mk t (m.take n),rfl,rfl⟩,from_tup fun a ha => ?_⟩
    · exact view_tup (.cons (view_cutB (by simp) hn fun x _ a ha => by simp [byteRow] at ha; subst ha; rfl) (.cons (.refl _) .nil))
    · simp at ha
      rcases ha with rfl | rfl
      · refine from_slc hc fun row hr a ha => ?_
        simp only [List.mem_map] at hr
        obtain ⟨x,_,rfl⟩ := hr
        simp [byteRow] at ha
        subst ha
        simp
      · simp
theorem fin_empB {l : List Int} {t c c' i : Nat} {H : List AObj} (hc : c ≤ t) (hH : H[i]? = some ⟨false,t,1,[]⟩) (hq : unpack l = none) : finW (fun r H' _ => H' = [] ∧ UnpQ l r ∧ From c r) (.tup [.ref i t 1 0,.bool false]) H c' := by
  have hm := List.mem_of_getElem? hH
  refine ⟨[⟨false,t,1,[]⟩],[],[],.tup [(SL.mk t []).av 1 byteRow,.bool false],by simp,.refl _ _,fun o ho => by rw [List.mem_singleton.1 ho]; exact hm,by simp [tags],?_,rfl,.inr ⟨hq,SL.mk t [],rfl,rfl⟩,from_tup fun a ha => ?_⟩
  · exact view_tup (.cons (view_ref (l := []) (enc := byteRow) (by simp) rfl fun x hx => by simp at hx) (.cons (.refl _) .nil))
  · simp at ha
    rcases ha with rfl | rfl
    · exact from_slc hc fun row hr => by simp at hr
    · simp
set_option maxHeartbeats 2000000 in
theorem impl_unp {l : SL Int} (hl : l.list.length ≤ 1048576) : Tr Tryz.prog 44 [l.av 1 encI] fun _ r => UnpQ l.list r := by
  intro c
  refine con_of c44 (by simp [F44]) ?_
  unfold F44
  have bad : ∀ {H : List AObj} {c' : Nat},unpack l.list = none → finW (fun r H' _ => H' = [] ∧ UnpQ l.list r ∧ From c r) (.tup [.nsl,.bool false]) H c' := fun {H c'} h => fin_plain ⟨rfl,.inr ⟨h,.nil,rfl,rfl⟩,from_tup fun a ha => by
    simp at ha
    rcases ha with rfl | rfl <;> simp⟩
  cases l with
  | nil =>
    simp [SL.av]
    exact bad rfl
  | mk tl ll =>
  cases ll with
  | nil =>
    simp [SL.av]
    exact bad rfl
  | cons a t =>
  have none_of : ¬ (0 ≤ a ∧ a ≤ 24000 ∧ (t.length : Int) = (a + 5) / 6 ∧ t.all wOk = true ∧ ((t.flatMap w6).drop a.toNat).all (fun x => decide (x.toNat = 0)) = true) → unpack (a :: t) = none := fun h => by rw [unpack,if_neg h]
  have some_of : ∀ {a : Int} {t : List Int},(0 ≤ a ∧ a ≤ 24000 ∧ (t.length : Int) = (a + 5) / 6 ∧ t.all wOk = true ∧ ((t.flatMap w6).drop a.toNat).all (fun x => decide (x.toNat = 0)) = true) → unpack (a :: t) = some ((t.flatMap w6).take a.toNat) := fun {a t} h => by rw [unpack,if_pos h]
  have hl' : t.length ≤ 1048576 := by simp at hl; omega
  have hav : (SL.mk tl (a :: t)).av 1 encI = .slc tl 1 ([.int .i64 a] :: t.map encI) := rfl
  rw [hav]
  replace bad : ∀ {H : List AObj} {c' : Nat},unpack (a :: t) = none → finW (fun r H' _ => H' = [] ∧ UnpQ (a :: t) r ∧ From c r) (.tup [.nsl,.bool false]) H c' := bad
  show irW Tryz.prog _ (retQ _ fun r H' _ => H' = [] ∧ UnpQ (a :: t) r ∧ From c r) _ _ _
  clear hav
  have nz : ¬ (t.length : Int) + 1 = 0 := by omega
  by_cases h1 : inR a 0 24000 = true
  rotate_left
  · have h1f : inR a 0 24000 = false := by simpa using h1
    simp [nz]
    refine call_fn0 (inRange_fn _ _ _) .bool fun _ _ => ?_
    rw [h1f]
    simp
    exact bad (none_of fun h => by
      have : inR a 0 24000 = true := by simp [inR]; omega
      rw [h1f] at this
      cases this)
  have h1' := inR_iff2 h1
  obtain ⟨n0,rfl⟩ : ∃ n0 : Nat,a = n0 := ⟨a.toNat,by omega⟩
  have w1 : IntKind.i64.wrap ((n0 : Int) + 5) = ((n0 + 5 : Nat) : Int) := by rw [wrap64 (by omega) (by omega)]; omega
  have w2 : (((n0 + 5 : Nat) : Int)).tdiv 6 = (((n0 + 5) / 6 : Nat) : Int) := by rw [Int.tdiv_eq_ediv_of_nonneg (by omega)]; omega
  have w3 : IntKind.i64.wrap (((n0 + 5) / 6 : Nat) : Int) = (((n0 + 5) / 6 : Nat) : Int) := wrap64 (by omega) (by omega)
  have w4 : IntKind.i64.wrap (1 + (((n0 + 5) / 6 : Nat) : Int)) = ((1 + (n0 + 5) / 6 : Nat) : Int) := by rw [wrap64 (by omega) (by omega)]; omega
  have h24 : n0 ≤ 24000 := by omega
  generalize hq6 : (n0 + 5) / 6 = q6 at w2 w3 w4
  have hq6' : ((n0 : Int) + 5) / 6 = q6 := by omega
  simp [nz]
  refine call_fn0 (inRange_fn _ _ _) .bool fun c1 hc1 => ?_
  rw [h1]
  by_cases h2 : t.length = q6
  rotate_left
  · have h2' : ¬ ((t.length + 1 : Nat) : Int) = ((1 + q6 : Nat) : Int) := by omega
    have h2'' : ¬ t.length + 1 = 1 + q6 := by omega
    have h2n : ¬ (t.length : Int) + 1 = 1 + (q6 : Int) := by omega
    simp [w1,w2,w3,w4,h2',h2'',h2n,-Int.natCast_add,-Int.natCast_ediv]
    exact bad (none_of fun h => h2 (by have := h.2.2.1; omega))
  have h2' : t.length + 1 = 1 + q6 := by omega
  have h2n : (t.length : Int) + 1 = 1 + (q6 : Int) := by omega
  simp [w1,w2,w3,w4,h2',h2n,-Int.natCast_add,-Int.natCast_ediv]
  refine loop_drop t.length (fun j e H c' => ∃ (tb L : Nat) (B : List UInt8),c ≤ c' ∧ c ≤ tb ∧ L = 6 * j ∧ B.length = L ∧ B = (t.take j).flatMap w6 ∧ (t.take j).all wOk = true ∧ e 0 = .slc tl 1 ([.int .i64 n0] :: t.map encI) ∧ e 33 = .slc tl 1 (t.map encI) ∧ e 34 = .int .i64 t.length ∧ e 35 = .int .i64 j ∧ e 4 = .ref 0 tb 1 L ∧ H = [⟨false,tb,1,B.map byteRow⟩]) ⟨c1,0,[],by omega,hc1,rfl,rfl,rfl,rfl,by simp [upd],by simp [upd]; rw [List.take_of_length_le (by simp; omega)]; rfl,by simp [upd]; omega,by simp [upd],by simp [upd],rfl⟩ ?_
  intro j e H c' hj ⟨tb,L,B,hc',htb,hL,hBl,hB,hok,e0,e33,e34,e35,e4,hH⟩ N hN
  subst hH
  by_cases h : j < t.length
  rotate_left
  · have hje : j = t.length := by omega
    subst hje
    rw [List.take_length] at hB hok
    have hnL : n0 ≤ L := by omega
    have hge : (n0 : Int) ≤ (L : Int) := by omega
    generalize hV : (if n0 = 0 then AV.ref 0 tb 1 L else .sub 0 tb 1 n0 (L - n0)) = V
    have hsl : ∀ K : AV → Prop,slcSliceW 1 (.ref 0 tb 1 L) (some (.int .i64 (n0 : Int))) none K = K V := fun K => by
      rw [slcSliceW_ref,← hV]
      simp only [bndW_some,bndW_none,Int.toNat_natCast,true_and]
      have : (0 : Int) ≤ (n0 : Int) := by omega
      by_cases hz : n0 = 0
      · simp [hz]
      · simp [hz,hnL]
    have hlen : ∀ K : AV → Prop,lenSlcW V K = K (.int .i64 ((L - n0 : Nat) : Int)) := fun K => by
      rw [← hV]
      by_cases hz : n0 = 0
      · simp [hz]
      · simp [hz]
    have had : ∀ (i : Nat) (K : AV → Prop),i < L - n0 → iaddrW 1 V (.int .i64 (i : Int)) K = K (.ptr 0 tb 1 (n0 + i) 0) := fun i K hi => by
      rw [← hV]
      by_cases hz : n0 = 0
      · have : i < L := by omega
        simp [hz,this]
      · simp [hz,hi]
    clear hV
    simp [e0,e33,e34,e35,e4,-slcSliceW_ref,hsl,hlen]
    refine loop_drop (L - n0) (fun i e H c' => e 0 = .slc tl 1 ([.int .i64 n0] :: t.map encI) ∧ e 4 = .ref 0 tb 1 L ∧ e 61 = V ∧ e 62 = .int .i64 ((L - n0 : Nat) : Int) ∧ e 63 = .int .i64 i ∧ (∀ x,x ∈ (B.drop n0).take i → x.toNat = 0) ∧ H = [⟨false,tb,1,B.map byteRow⟩]) ⟨by simp [upd,e0],by simp [upd,e4],by simp [upd],by simp [upd],by simp [upd],by simp,rfl⟩ ?_
    clear e0 e33 e34 e35 e4 e
    intro i e H c2 hi ⟨e0,e4,e61,e62,e63,hz,hH⟩ M hM
    subst hH
    by_cases hin : i < L - n0
    · obtain ⟨x,hx⟩ : ∃ x,B[n0 + i]? = some x := ⟨_,List.getElem?_eq_getElem (by omega)⟩
      have hx' : (B.map byteRow)[n0 + i]? = some (byteRow x) := by rw [List.getElem?_map,hx]; rfl
      have hd : (B.drop n0)[i]? = some x := by rw [List.getElem?_drop]; exact hx
      have hin' : (i : Int) < ((L - n0 : Nat) : Int) := by omega
      have had' := fun K => had i K hin
      by_cases hx0 : x.toNat = 0
      · simp [e0,e4,e61,e62,e63,hin,hin',had',getW_of hx',hx0]
        refine hM _ _ [_] _ hin (List.Sublist.refl _) ⟨by simp [upd,e0],by simp [upd,e4],by simp [upd,e61],by simp [upd,e62],by simp [upd]; exact step64 (by unfold mx; omega) hin,?_,rfl⟩
        intro y hy
        rw [List.take_succ_eq_append_getElem (by simp; omega),List.mem_append,List.mem_singleton] at hy
        rcases hy with hy | rfl
        · exact hz y hy
        · rw [(List.getElem?_eq_some_iff.1 hd).2]; exact hx0
      · simp [e0,e4,e61,e62,e63,hin,hin',had',getW_of hx',hx0]
        exact bad (none_of fun hh => by
          have h5 := hh.2.2.2.2
          rw [← hB,Int.toNat_natCast,List.all_eq_true] at h5
          have := h5 x (List.mem_of_getElem? hd)
          simp at this
          exact hx0 (by rw [this]))
    · have hie : i = L - n0 := by omega
      subst hie
      rw [List.take_of_length_le (by simp; omega)] at hz
      simp [e0,e4,e61,e62,e63,hnL]
      have hu := some_of (a := (n0 : Int)) (t := t) ⟨by omega,by omega,by omega,hok,by
        rw [← hB,Int.toNat_natCast,List.all_eq_true]
        exact fun x hx => decide_eq_true (hz x hx)⟩
      rw [Int.toNat_natCast,← hB] at hu
      exact fin_cutB htb rfl (by omega) hu
  obtain ⟨n,hx⟩ : ∃ n,t[j]? = some n := ⟨_,List.getElem?_eq_getElem h⟩
  have hx' : (t.map encI)[j]? = some [.int .i64 n] := by rw [List.getElem?_map,hx]; rfl
  have hmem := List.mem_of_getElem? hx
  by_cases hw : wOk n = true
  rotate_left
  · have hno : ¬ (0 ≤ (n0 : Int) ∧ (n0 : Int) ≤ 24000 ∧ (t.length : Int) = ((n0 : Int) + 5) / 6 ∧ t.all wOk = true ∧ ((t.flatMap w6).drop (n0 : Int).toNat).all (fun x => decide (x.toNat = 0)) = true) := fun hh => hw (List.all_eq_true.1 hh.2.2.2.1 n hmem)
    by_cases hn0 : n < 0
    · simp [e0,e33,e34,e35,e4,h,getW_of hx',hn0]
      exact bad (none_of hno)
    · have hbig : (281474976710656 : Int) ≤ n := by
        simp [wOk] at hw
        omega
      simp [e0,e33,e34,e35,e4,h,getW_of hx',hn0,hbig]
      exact bad (none_of hno)
  have hw' : 0 ≤ n ∧ n < 281474976710656 := by simpa [wOk] using hw
  obtain ⟨m,rfl⟩ : ∃ m : Nat,n = m := ⟨n.toNat,by omega⟩
  have hn0 : ¬ (m : Int) < 0 := by omega
  have hbig : ¬ (281474976710656 : Int) ≤ (m : Int) := by omega
  simp [e0,e33,e34,e35,e4,h,getW_of hx',hn0,hbig]
  refine loop_drop 6 (fun k e H c' => ∃ (tb : Nat) (R : List UInt8),c ≤ c' ∧ c ≤ tb ∧ R = B ++ (w6 (m : Int)).take k ∧ R.length = L + k ∧ e 0 = .slc tl 1 ([.int .i64 n0] :: t.map encI) ∧ e 33 = .slc tl 1 (t.map encI) ∧ e 34 = .int .i64 t.length ∧ e 35 = .int .i64 j ∧ e 4 = .ref 0 tb 1 R.length ∧ e 6 = .int .i64 m ∧ e 7 = .int .i64 (40 - 8 * (k : Int)) ∧ H = [⟨false,tb,1,R.map byteRow⟩]) ⟨tb,B,by omega,htb,by simp,by omega,by simp [upd,e0],by simp [upd,e33],by simp [upd,e34],by simp [upd,e35],by simp [upd,e4,hBl],by simp [upd],by simp [upd],rfl⟩ ?_
  clear e0 e33 e34 e35 e4 e
  intro k e H c2 hk ⟨tb2,R,hc2,htb2,hR,hRl,e0,e33,e34,e35,e4,e6,e7,hH⟩ M hM
  subst hH
  by_cases hk6 : k < 6
  · have hge : (0 : Int) ≤ 40 - 8 * (k : Int) := by omega
    have hsh := fun K => shr8 (n := m) hk6 K
    have hst := w6_step (m : Int) hk6
    rw [Int.toNat_natCast] at hst
    generalize hy : m / 256 ^ (5 - k) = y at hsh hst
    have hu := u8nat y
    have hg1 : R.length + 1 ≤ 140737488355328 := by omega
    have hg2 : R.length + 1 ≤ mx := by unfold mx; omega
    have hdec : IntKind.i64.wrap (40 - 8 * (k : Int) - 8) = 40 - 8 * ((k + 1 : Nat) : Int) := by rw [wrap64 (by omega) (by omega)]; omega
    have hge8 : 8 * (k : Int) ≤ 40 := by omega
    simp [e0,e33,e34,e35,e4,e6,e7,hge8,hsh,hg1,hg2,hdec,-Int.natCast_add]
    refine hM _ _ [⟨false,c2 + 1,1,(R ++ [UInt8.ofNat y]).map byteRow⟩] _ hk6 ?_ ⟨c2 + 1,R ++ [UInt8.ofNat y],by omega,by omega,by rw [hst,hR,List.append_assoc],by simp; omega,by simp [upd,e0],by simp [upd,e33],by simp [upd,e34],by simp [upd,e35],by simp [upd],by simp [upd,e6],by simp [upd,-Int.natCast_add],rfl⟩
    simp [byteRow]
    rw [IntKind.wrap_u8]
  · have hke : k = 6 := by omega
    subst hke
    have hlt : ¬ (0 : Int) ≤ 40 - 8 * ((6 : Nat) : Int) := by omega
    have h6 : (w6 (m : Int)).take 6 = w6 (m : Int) := List.take_of_length_le (Nat.le_of_eq (w6_len _))
    have htk : t.take (j + 1) = t.take j ++ [(m : Int)] := by rw [List.take_succ_eq_append_getElem h,(List.getElem?_eq_some_iff.1 hx).2]
    simp [e0,e33,e34,e35,e4,e6,e7]
    exact hN _ _ [⟨false,tb2,1,R.map byteRow⟩] _ h (by simp) ⟨tb2,L + 6,R,by omega,by omega,by omega,by omega,by rw [hR,h6,hB,htk]; simp,by rw [htk]; simp [hok,hw],by simp [upd,e0],by simp [upd,e33],by simp [upd,e34],by simp [upd]; exact step64 (by unfold mx; omega) h,by simp [upd,e4,hRl],rfl⟩
set_option maxRecDepth 100000
theorem TValue.wt_con : ∀ v : TValue,v.con.wt = v.wt := TValue.ind fun k n s x I ih => by
  rw [TValue.con_mk,TValue.wt_mk,TValue.wt_mk,SL.list_mk,szL_congr fun e he => ?_]
  show e.2.con.wt = e.2.wt
  exact ih e he
theorem Gd_con {k n : Int} {s : List UInt8} {x : Int} {I : SL (TKey × TValue)} (ih : ∀ e,e ∈ I.list → (e.2.con.gd ↔ e.2.gd)) : Gd (TValue.mk k n s x I).con ↔ Gd (TValue.mk k n s x I) := by
  rw [TValue.con_mk]
  have e1 : (I.list.map conE).map Prod.fst = I.list.map Prod.fst := by rw [List.map_map]; rfl
  constructor
  · intro h
    exact ⟨h.k0,h.k8,h.k5,h.s3,fun k => ⟨(h.x4 k).1,by have h2 : I.list.map conE = [] := (h.x4 k).2; exact List.map_eq_nil_iff.1 h2⟩,h.n0,h.n1,h.n2,h.n3,h.n6,h.a0,h.a1,fun k => by have h2 : ((I.list.map conE).map Prod.fst).Nodup := h.a2 k; rw [e1] at h2; exact h2,fun k e he => h.a3 k (conE e) (List.mem_map_of_mem he),fun k e he => (ih e he).1 (h.a4 k (conE e) (List.mem_map_of_mem he))⟩
  · intro h
    exact ⟨h.k0,h.k8,h.k5,h.s3,fun k => ⟨(h.x4 k).1,by have h2 : I.list = [] := (h.x4 k).2; show I.list.map conE = []; rw [h2]; rfl⟩,h.n0,h.n1,h.n2,h.n3,h.n6,h.a0,h.a1,fun k => by show ((I.list.map conE).map Prod.fst).Nodup; rw [e1]; exact h.a2 k,fun k e he => by
      obtain ⟨d,hd,rfl⟩ := List.mem_map.1 (show e ∈ I.list.map conE from he)
      exact h.a3 k d hd,fun k e he => by
      obtain ⟨d,hd,rfl⟩ := List.mem_map.1 (show e ∈ I.list.map conE from he)
      exact (ih d hd).2 (h.a4 k d hd)⟩
theorem gd_con : ∀ v : TValue,v.con.gd ↔ v.gd := TValue.ind fun k n s x I ih => by
  rw [gd_iff,gd_iff]
  exact Gd_con ih
theorem isVal_con (v : TValue) : isVal v.con = isVal v := by
  unfold isVal
  rw [TValue.wt_con]
  have : pdec v.con.gd = pdec v.gd := by
    by_cases h : v.gd
    · rw [pdec_true h,pdec_true ((gd_con v).2 h)]
    · rw [pdec_false h,pdec_false fun h2 => h ((gd_con v).1 h2)]
  rw [this]
theorem con_kind (v : TValue) : v.con.Kind = v.Kind ∧ v.con.Num = v.Num ∧ v.con.Str = v.Str := by
  cases v; rw [TValue.con_mk]; exact ⟨rfl,rfl,rfl⟩
theorem ser_con (v : TValue) : ser v.con = ser v := by
  obtain ⟨h1,h2,h3⟩ := con_kind v
  unfold ser
  rw [h1,h2,h3]
theorem fieldOk_con (f : TField) : FieldOk f.con ↔ FieldOk f := by
  have e : f.con.Init = f.Init.con := rfl
  have e2 : f.con.Name = f.Name := rfl
  constructor
  · intro h; exact ⟨h.gd,by have := h.vl; rw [e,isVal_con] at this; exact this,by have := h.kd; rw [e,(con_kind _).1] at this; exact this⟩
  · intro h; exact ⟨h.gd,by rw [e,isVal_con]; exact h.vl,by rw [e,(con_kind _).1]; exact h.kd⟩
theorem eField_con (f : TField) : eField f.con = eField f := by
  unfold eField
  rw [show f.con.Init = f.Init.con from rfl,ser_con]; rfl
theorem map_same {α : Type} {f : α → α} (h : ∀ x,f x = x) (l : List α) : l.map f = l := by
  induction l with
  | nil => rfl
  | cons x l ih => rw [List.map_cons,h,ih]
theorem fcon_lists (f : TFunc) : f.con.Name = f.Name ∧ f.con.Params.list = f.Params.list ∧ f.con.Uses.list = f.Uses.list ∧ f.con.Slots.list = f.Slots.list ∧ f.con.Gen = f.Gen ∧ f.con.Code.list = f.Code.list :=
  ⟨rfl,map_same (fun _ => rfl) _,map_same (fun _ => rfl) _,rfl,rfl,map_same (fun _ => rfl) _⟩
theorem funcOk_of {f g : TFunc} (h1 : f.Name = g.Name) (h2 : f.Params.list = g.Params.list) (h3 : f.Uses.list = g.Uses.list) (h4 : f.Slots.list = g.Slots.list) (h5 : f.Gen = g.Gen) (h6 : f.Code.list = g.Code.list) (h : FuncOk f) : FuncOk g := by
  obtain ⟨a1,a2,a3,a4,a5,a6,a7,a8,a9,a10,a11⟩ := h
  rw [h1] at a1 a2 a10
  rw [h2,h3,h4] at a5
  rw [h4] at a3 a6 a7 a11
  rw [h2,h3,h4] at a8
  rw [h6] at a4 a9 a11
  rw [h5] at a9
  rw [h4,h5] at a10
  exact ⟨a1,a2,a3,a4,a5,a6,a7,a8,a9,a10,a11⟩
theorem funcOk_con (f : TFunc) : FuncOk f.con ↔ FuncOk f := by
  obtain ⟨h1,h2,h3,h4,h5,h6⟩ := fcon_lists f
  exact ⟨funcOk_of h1 h2 h3 h4 h5 h6,funcOk_of h1.symm h2.symm h3.symm h4.symm h5.symm h6.symm⟩
theorem eFunc_con (f : TFunc) : eFunc f.con = eFunc f := by
  obtain ⟨h1,h2,h3,h4,h5,h6⟩ := fcon_lists f
  unfold eFunc
  rw [h1,h2,h3,h4,h5,h6]
theorem eL_map {α : Type} {f : α → List UInt8} {g : α → α} (h : ∀ x,f (g x) = f x) (l : List α) : eL f (l.map g) = eL f l := by
  unfold eL
  rw [List.length_map]
  congr 1
  induction l with
  | nil => rfl
  | cons x l ih => simp only [List.map_cons,List.flatMap_cons,h,ih]
theorem ccon_lists (c : TClass) : c.con.Name = c.Name ∧ c.con.Parent = c.Parent ∧ c.con.Fields.list = c.Fields.list.map TField.con ∧ c.con.Methods.list = c.Methods.list := ⟨rfl,rfl,rfl,map_same (fun _ => rfl) _⟩
theorem eClass_con (c : TClass) : eClass c.con = eClass c := by
  obtain ⟨h1,h2,h3,h4⟩ := ccon_lists c
  unfold eClass
  rw [h1,h2,h3,h4,eL_map eField_con]
theorem eProg_con (p : TProgram) : eProg p.con = eProg p := by
  unfold eProg
  rw [show p.con.Funcs.list = p.Funcs.list.map TFunc.con from rfl,show p.con.Classes.list = p.Classes.list.map TClass.con from rfl,eL_map eFunc_con,eL_map eClass_con]
theorem metOk_con (p : TProgram) (m : TMethod) : MetOk p.con m ↔ MetOk p m := by
  constructor
  · rintro ⟨g,h1,h2,h3,h4⟩
    obtain ⟨f,hf,rfl⟩ := List.mem_map.1 (show g ∈ p.Funcs.list.map TFunc.con from h1)
    obtain ⟨e1,_,e3,_⟩ := fcon_lists f
    exact ⟨f,hf,h2,h3,by rw [e3] at h4; exact h4⟩
  · rintro ⟨f,h1,h2,h3,h4⟩
    obtain ⟨e1,_,e3,_⟩ := fcon_lists f
    exact ⟨f.con,List.mem_map_of_mem h1,h2,h3,by rw [e3]; exact h4⟩
theorem classOk_con (p : TProgram) (c : TClass) : ClassOk p.con c.con ↔ ClassOk p c := by
  obtain ⟨_,_,h3,h4⟩ := ccon_lists c
  have e : (c.Fields.list.map TField.con).map TField.Name = c.Fields.list.map TField.Name := by rw [List.map_map]; rfl
  constructor
  · intro h
    refine ⟨by have := h.nd; rw [h3,e] at this; exact this,fun f hf => (fieldOk_con f).1 (h.fs _ (by rw [h3]; exact List.mem_map_of_mem hf)),fun m hm => (metOk_con p m).1 (h.ms m (by rw [h4]; exact hm))⟩
  · intro h
    refine ⟨by rw [h3,e]; exact h.nd,fun f hf => ?_,fun m hm => (metOk_con p m).2 (h.ms m (by rw [h4] at hm; exact hm))⟩
    rw [h3] at hf
    obtain ⟨g,hg,rfl⟩ := List.mem_map.1 hf
    exact (fieldOk_con g).2 (h.fs g hg)
theorem progOk_con (p : TProgram) : ProgOk p.con ↔ ProgOk p := by
  have eF : p.con.Funcs.list = p.Funcs.list.map TFunc.con := rfl
  have eC : p.con.Classes.list = p.Classes.list.map TClass.con := rfl
  have e1 : (p.Funcs.list.map TFunc.con).map TFunc.Name = p.Funcs.list.map TFunc.Name := by rw [List.map_map]; rfl
  have e2 : (p.Classes.list.map TClass.con).map TClass.Name = p.Classes.list.map TClass.Name := by rw [List.map_map]; rfl
  constructor
  · intro h
    refine ⟨by have := h.fl; rw [eF,List.length_map] at this; exact this,?_,by have := h.fnd; rw [eF,e1] at this; exact this,fun f hf => (funcOk_con f).1 (h.fok _ (by rw [eF]; exact List.mem_map_of_mem hf)),by have := h.cnd; rw [eC,e2] at this; exact this,fun c hc => (classOk_con p c).1 (h.cok _ (by rw [eC]; exact List.mem_map_of_mem hc))⟩
    obtain ⟨c,f,h1,h2,h3,h4⟩ := h.c0
    rw [eC,List.getElem?_map] at h1
    obtain ⟨d,hd,rfl⟩ := Option.map_eq_some_iff.1 h1
    rw [(ccon_lists d).2.2.1,List.getElem?_map] at h3
    obtain ⟨g,hg,rfl⟩ := Option.map_eq_some_iff.1 h3
    exact ⟨d,g,hd,h2,hg,h4⟩
  · intro h
    refine ⟨by rw [eF,List.length_map]; exact h.fl,?_,by rw [eF,e1]; exact h.fnd,fun f hf => ?_,by rw [eC,e2]; exact h.cnd,fun c hc => ?_⟩
    · obtain ⟨c,f,h1,h2,h3,h4⟩ := h.c0
      exact ⟨c.con,f.con,by rw [eC,List.getElem?_map,h1]; rfl,h2,by rw [(ccon_lists c).2.2.1,List.getElem?_map,h3]; rfl,h4⟩
    · rw [eF] at hf
      obtain ⟨g,hg,rfl⟩ := List.mem_map.1 hf
      exact (funcOk_con g).2 (h.fok g hg)
    · rw [eC] at hc
      obtain ⟨d,hd,rfl⟩ := List.mem_map.1 hc
      exact (classOk_con p d).2 (h.cok d hd)
theorem prog_same {p q : TProgram} (h : p.con = q.con) : (ProgOk p ↔ ProgOk q) ∧ eProg p = eProg q :=
  ⟨(progOk_con p).symm.trans (h ▸ progOk_con q),by rw [← eProg_con p,h,eProg_con]⟩
set_option maxRecDepth 100000
abbrev RSt := Option Nat
def rNum (b : List UInt8) : RSt → Nat × RSt
  | none => (0,none)
  | some a => match rdN b a with | none => (0,none) | some (n,x) => (n,some x)
def rText (b : List UInt8) : RSt → List UInt8 × RSt
  | none => ([],none)
  | some a => match rdT b a with | none => ([],none) | some (n,x) => (n,some x)
def rFlag (b : List UInt8) (s : RSt) : Bool × RSt := (decide ((rNum b s).1 = 1),if 1 < (rNum b s).1 then none else (rNum b s).2)
def rRep {α : Type} (f : RSt → α × RSt) : Nat → RSt → List α × RSt
  | 0,s => ([],s)
  | _ + 1,none => ([],none)
  | n + 1,some a => ((f (some a)).1 :: (rRep f n (f (some a)).2).1,(rRep f n (f (some a)).2).2)
def rList {α : Type} (b : List UInt8) (f : RSt → α × RSt) (s : RSt) : List α × RSt := rRep f (rNum b s).1 (rNum b s).2
def rParam (b : List UInt8) (s : RSt) : TParam × RSt := (⟨(rText b s).1,(rFlag b (rText b s).2).1⟩,(rFlag b (rText b s).2).2)
structure Cons {α : Type} (b : List UInt8) (f : RSt → α × RSt) (g : α → Nat) : Prop where
  non : (f none).2 = none
  eat : ∀ a a',(f (some a)).2 = some a' → a + g (f (some a)).1 + 1 ≤ a' ∧ a' ≤ b.length
theorem cons_num (b : List UInt8) : Cons b (rNum b) (fun _ => 0) := ⟨rfl,fun a a' h => by
  cases hn : rdN b a with
  | none => simp only [rNum,hn] at h; cases h
  | some r =>
    simp only [rNum,hn] at h
    have := rdN_bnd hn
    cases h
    omega⟩
theorem cons_text (b : List UInt8) : Cons b (rText b) List.length := ⟨rfl,fun a a' h => by
  cases hn : rdT b a with
  | none => unfold rText at h; simp only [hn] at h; cases h
  | some r =>
    unfold rText at h ⊢
    simp only [hn] at h ⊢
    unfold rdT at hn
    cases hq : rdN b a with
    | none => rw [hq] at hn; cases hn
    | some q =>
      rw [hq] at hn
      obtain ⟨h1,h2,h3⟩ := rdN_bnd hq
      simp only at hn
      split at hn
      · cases hn
        cases h
        simp
        omega
      · cases hn⟩
theorem cons_flag (b : List UInt8) : Cons b (rFlag b) (fun _ => 0) := by
  have h0 := cons_num b
  refine ⟨rfl,fun a a' h => ?_⟩
  unfold rFlag at h
  simp only at h
  split at h
  · cases h
  · exact h0.eat a a' h
theorem cons_of_some {α : Type} {b : List UInt8} {f : RSt → α × RSt} {g : α → Nat} (h : Cons b f g) {s : RSt} {a' : Nat} (hs : (f s).2 = some a') : ∃ a,s = some a ∧ a + g (f s).1 + 1 ≤ a' ∧ a' ≤ b.length := by
  cases s with
  | none => rw [h.non] at hs; cases hs
  | some a => exact ⟨a,rfl,h.eat a a' hs⟩
theorem cons_param (b : List UInt8) : Cons b (rParam b) TParam.sz := by
  refine ⟨rfl,fun a a' h => ?_⟩
  obtain ⟨a1,h1,h2,h3⟩ := cons_of_some (cons_flag b) (s := (rText b (some a)).2) (a' := a') h
  have h4 := (cons_text b).eat a a1 h1
  have e : (rParam b (some a)).1.sz = (rText b (some a)).1.length := rfl
  rw [e]
  omega
theorem rep_none {α : Type} (f : RSt → α × RSt) (n : Nat) : rRep f n none = ([],none) := by cases n <;> rfl
theorem rep_eat {α : Type} {b : List UInt8} {f : RSt → α × RSt} {g : α → Nat} (h : Cons b f g) : ∀ (n a : Nat) (a' : Nat),a ≤ b.length → (rRep f n (some a)).2 = some a' → a + szL g (rRep f n (some a)).1 + (rRep f n (some a)).1.length ≤ a' ∧ a' ≤ b.length
  | 0,a,a',ha,hs => by cases hs; simp [rRep,szL]; exact ha
  | n + 1,a,a',ha,hs => by
    rw [rRep] at hs ⊢
    simp only at hs ⊢
    cases h1 : (f (some a)).2 with
    | none => rw [h1,rep_none] at hs; cases hs
    | some a1 =>
      rw [h1] at hs
      obtain ⟨h2,h3⟩ := h.eat a a1 h1
      obtain ⟨h4,h5⟩ := rep_eat h n a1 a' h3 hs
      simp only [szL,List.map_cons,List.sum_cons,List.length_cons] at h4 ⊢
      omega
theorem cons_list {α : Type} {b : List UInt8} {f : RSt → α × RSt} {g : α → Nat} (h : Cons b f g) : Cons b (rList b f) (fun l => szL g l + l.length) := by
  refine ⟨by show (rRep f 0 none).2 = none; rfl,fun a a' hs => ?_⟩
  unfold rList at hs ⊢
  cases h1 : (rNum b (some a)).2 with
  | none => rw [h1,rep_none] at hs; cases hs
  | some a1 =>
    rw [h1] at hs
    obtain ⟨h2,h3⟩ := (cons_num b).eat a a1 h1
    obtain ⟨h4,h5⟩ := rep_eat h _ a1 a' h3 hs
    omega
def rIns (b : List UInt8) (s : RSt) : TIns × RSt :=
  (⟨(rNum b s).1,(rNum b (rNum b s).2).1,(rNum b (rNum b (rNum b s).2).2).1,(rText b (rNum b (rNum b (rNum b s).2).2).2).1,(rText b (rText b (rNum b (rNum b (rNum b s).2).2).2).2).1⟩,(rText b (rText b (rNum b (rNum b (rNum b s).2).2).2).2).2)
theorem cons_ins (b : List UInt8) : Cons b (rIns b) TIns.sz := by
  refine ⟨rfl,fun a a' h => ?_⟩
  have e : (rIns b (some a)).1.sz = (rText b (rNum b (rNum b (rNum b (some a)).2).2).2).1.length + (rText b (rText b (rNum b (rNum b (rNum b (some a)).2).2).2).2).1.length := rfl
  rw [e]
  obtain ⟨a5,h5,k5,l5⟩ := cons_of_some (cons_text b) (s := (rText b (rNum b (rNum b (rNum b (some a)).2).2).2).2) (a' := a') h
  obtain ⟨a4,h4,k4,l4⟩ := cons_of_some (cons_text b) h5
  obtain ⟨a3,h3,k3,l3⟩ := cons_of_some (cons_num b) h4
  obtain ⟨a2,h2,k2,l2⟩ := cons_of_some (cons_num b) h3
  obtain ⟨a1,h1,k1,l1⟩ := cons_of_some (cons_num b) h2
  cases h1
  omega
def rFunc (b : List UInt8) (s : RSt) : TFunc × RSt :=
  let n := rText b s
  let p := rList b (rParam b) n.2
  let u := rList b (rParam b) p.2
  let l := rList b (rText b) u.2
  let g := rFlag b l.2
  let c := rList b (rIns b) g.2
  (⟨n.1,.mk 0 p.1,.mk 0 u.1,.mk 0 l.1,g.1,.mk 0 c.1⟩,c.2)
theorem cons_func (b : List UInt8) : Cons b (rFunc b) TFunc.sz := by
  refine ⟨rfl,fun a a' h => ?_⟩
  unfold rFunc at h ⊢
  simp only at h ⊢
  generalize hn : rText b (some a) = n at h ⊢
  generalize hp : rList b (rParam b) n.2 = p at h ⊢
  generalize hu : rList b (rParam b) p.2 = u at h ⊢
  generalize hl : rList b (rText b) u.2 = l at h ⊢
  generalize hg : rFlag b l.2 = g at h ⊢
  generalize hc : rList b (rIns b) g.2 = c at h ⊢
  rw [← hc] at h
  obtain ⟨a5,h5,k5,l5⟩ := cons_of_some (cons_list (cons_ins b)) h
  rw [← hg] at h5
  obtain ⟨a4,h4,k4,l4⟩ := cons_of_some (cons_flag b) h5
  rw [← hl] at h4
  obtain ⟨a3,h3,k3,l3⟩ := cons_of_some (cons_list (cons_text b)) h4
  rw [← hu] at h3
  obtain ⟨a2,h2,k2,l2⟩ := cons_of_some (cons_list (cons_param b)) h3
  rw [← hp] at h2
  obtain ⟨a1,h1,k1,l1⟩ := cons_of_some (cons_list (cons_param b)) h2
  rw [← hn] at h1
  obtain ⟨a0,h0,k0,l0⟩ := cons_of_some (cons_text b) h1
  cases h0
  rw [hc] at k5
  rw [hl] at k3
  rw [hu] at k2
  rw [hp] at k1
  rw [hn] at k0
  have e : (⟨n.1,.mk 0 p.1,.mk 0 u.1,.mk 0 l.1,g.1,.mk 0 c.1⟩ : TFunc).sz = n.1.length + (p.1.length + szL TParam.sz p.1) + (u.1.length + szL TParam.sz u.1) + (l.1.length + szL List.length l.1) + (c.1.length + szL TIns.sz c.1) := rfl
  rw [e]
  omega
def rMet (b : List UInt8) (s : RSt) : TMethod × RSt :=
  let n := rText b s
  let o := rText b n.2
  let f := rText b o.2
  let p := rFlag b f.2
  let t := rFlag b p.2
  (⟨n.1,o.1,f.1,p.1,t.1⟩,t.2)
theorem cons_met (b : List UInt8) : Cons b (rMet b) TMethod.sz := by
  refine ⟨rfl,fun a a' h => ?_⟩
  unfold rMet at h ⊢
  simp only at h ⊢
  generalize hn : rText b (some a) = n at h ⊢
  generalize ho : rText b n.2 = o at h ⊢
  generalize hf : rText b o.2 = f at h ⊢
  generalize hp : rFlag b f.2 = p at h ⊢
  generalize ht : rFlag b p.2 = t at h ⊢
  rw [← ht] at h
  obtain ⟨a4,h4,k4,l4⟩ := cons_of_some (cons_flag b) h
  rw [← hp] at h4
  obtain ⟨a3,h3,k3,l3⟩ := cons_of_some (cons_flag b) h4
  rw [← hf] at h3
  obtain ⟨a2,h2,k2,l2⟩ := cons_of_some (cons_text b) h3
  rw [← ho] at h2
  obtain ⟨a1,h1,k1,l1⟩ := cons_of_some (cons_text b) h2
  rw [← hn] at h1
  obtain ⟨a0,h0,k0,l0⟩ := cons_of_some (cons_text b) h1
  cases h0
  rw [hf] at k2
  rw [ho] at k1
  rw [hn] at k0
  have e : (⟨n.1,o.1,f.1,p.1,t.1⟩ : TMethod).sz = n.1.length + o.1.length + f.1.length := rfl
  rw [e]
  omega
set_option maxRecDepth 100000
def irO (s : SL UInt8) (t a : Nat) (b : Bool) : AObj := ⟨false,t,3,[[s.av 1 byteRow,.int .i64 a,.bool b]]⟩
def ObI (s : SL UInt8) (t : Nat) (σ : RSt) (o : AObj) : Prop := ∃ a b,o = irO s t a b ∧ a ≤ s.list.length ∧ ((σ = some a ∧ b = false) ∨ (σ = none ∧ b = true))
theorem av_irO (s : SL UInt8) (t a : Nat) (b : Bool) : AvRows [] (irO s t a b) := by
  intro r j x y hx hy
  have h1 := List.mem_of_getElem? hx
  simp [irO] at h1
  subst h1
  have h2 := List.mem_of_getElem? hy
  simp at h2
  rcases h2 with rfl | rfl | rfl
  · exact av_bytes s
  · exact .int
  · exact .bool
theorem ObI.av {s : SL UInt8} {t : Nat} {σ : RSt} {o : AObj} (h : ObI s t σ o) : AvRows [] o := by
  obtain ⟨a,b,rfl,_⟩ := h
  exact av_irO _ _ _ _
theorem ObI.tg {s : SL UInt8} {t : Nat} {σ : RSt} {o : AObj} (h : ObI s t σ o) : o.tag = t := by
  obtain ⟨a,b,rfl,_⟩ := h
  rfl
def IrQ (s : SL UInt8) (t : Nat) (σ : RSt) (v : AV) (r : AV) (O : List AObj) : Prop := ∃ o,O = [o] ∧ ObI s t σ o ∧ r = v
theorem call_ir {P : Program} {K : AV → List AObj → Nat → Prop} {f i c t : Nat} {s : SL UInt8} {σ σ' : RSt} {args : List AV} {H : List AObj} {o : AObj} {v : AV} (hi : H[i]? = some o) (ho : ObI s t σ o) (hv : Av [] v) (hf : Con P f (.ptr 0 t 3 0 0 :: args) [o] c fun r O _ => IrQ s t σ' v r O)
    (k : ∀ o' c',c ≤ c' → ObI s t σ' o' → K v (H.set i o') c') : CallW P f (.ptr i t 3 0 0 :: args) H c K :=
  call_at hi hf (.cons .namep (Views.refl [] args)) fun r O c' hc ⟨o',hO,h1,hr⟩ => ⟨o',hO,by rw [h1.tg,ho.tg],by rw [hr]; exact hv,h1.av,by rw [hr]; exact k o' c' hc h1⟩
theorem fin_ir {s : SL UInt8} {t c : Nat} {σ : RSt} {o : AObj} {v : AV} {H : List AObj} (hH : H.head? = some o) (ho : ObI s t σ o) : finW (fun r O _ => IrQ s t σ v r O) v H c := by
  cases H with
  | nil => simp at hH
  | cons x l =>
    simp at hH
    subst hH
    exact ⟨[],[x],[x],v,by simp,.refl _ _,by simp,by simp [tags],.refl _,x,rfl,ho,rfl⟩
set_option maxHeartbeats 1000000 in
theorem ir_num {s : SL UInt8} {t : Nat} {σ : RSt} {o : AObj} (hl : s.list.length ≤ 1048576) (ho : ObI s t σ o) (c : Nat) : Con Tryz.prog 79 [.ptr 0 t 3 0 0] [o] c fun r O _ => IrQ s t (rNum s.list σ).2 (.int .i64 (rNum s.list σ).1) r O := by
  obtain ⟨a,b,rfl,ha,hσ⟩ := ho
  refine con_of c79 (by simp [F79]) ?_
  unfold F79
  simp [irO]
  refine ⟨fun _ v => v = rdNA (rdN s.list a),callD_fn0 (impl_rdN (by omega) (by omega)) (fun v => Iff.rfl) (fun _ _ _ => free_rdN _) ?_⟩
  rcases hσ with ⟨rfl,rfl⟩ | ⟨rfl,rfl⟩
  · cases hn : rdN s.list a with
    | none =>
      have e1 : rNum s.list (some a) = (0,none) := by simp only [rNum,hn]
      rw [e1]
      simp [rdNA]
      intro c' _
      simp [putA]
      exact fin_ir (o := irO s t a true) rfl ⟨a,true,rfl,ha,.inr ⟨rfl,rfl⟩⟩
    | some q =>
      obtain ⟨n,x⟩ := q
      have hb := rdN_bnd hn
      have e1 : rNum s.list (some a) = (n,some x) := by simp only [rNum,hn]
      rw [e1]
      simp [rdNA]
      intro c' _
      simp [putA]
      exact fin_ir (o := irO s t x false) rfl ⟨x,false,rfl,hb.2.2,.inl ⟨rfl,rfl⟩⟩
  · have e1 : rNum s.list none = (0,none) := rfl
    rw [e1]
    cases hn : rdN s.list a with
    | none =>
      simp [rdNA]
      intro c' _
      simp [putA]
      exact fin_ir (o := irO s t a true) rfl ⟨a,true,rfl,ha,.inr ⟨rfl,rfl⟩⟩
    | some q =>
      simp [rdNA]
      intro c' _
      simp [putA]
      exact fin_ir (o := irO s t a true) rfl ⟨a,true,rfl,ha,.inr ⟨rfl,rfl⟩⟩
set_option maxHeartbeats 1000000 in
theorem ir_text {s : SL UInt8} {t : Nat} {σ : RSt} {o : AObj} (hl : s.list.length ≤ 1048576) (ho : ObI s t σ o) (c : Nat) : Con Tryz.prog 126 [.ptr 0 t 3 0 0] [o] c fun r O _ => IrQ s t (rText s.list σ).2 (.str (rText s.list σ).1) r O := by
  obtain ⟨a,b,rfl,ha,hσ⟩ := ho
  refine con_of c126 (by simp [F126]) ?_
  unfold F126
  simp [irO]
  refine ⟨fun _ v => v = rdTA (rdT s.list a),callD_fn0 (impl_rdT (by omega) (by omega)) (fun v => Iff.rfl) (fun _ _ _ => free_rdT _) ?_⟩
  rcases hσ with ⟨rfl,rfl⟩ | ⟨rfl,rfl⟩
  · cases hn : rdT s.list a with
    | none =>
      have e1 : rText s.list (some a) = ([],none) := by simp only [rText,hn]
      rw [e1]
      simp [rdTA]
      intro c' _
      simp [putA]
      exact fin_ir (o := irO s t a true) rfl ⟨a,true,rfl,ha,.inr ⟨rfl,rfl⟩⟩
    | some q =>
      obtain ⟨n,x⟩ := q
      have hb := rdT_bnd hn
      have e1 : rText s.list (some a) = (n,some x) := by simp only [rText,hn]
      rw [e1]
      simp [rdTA]
      intro c' _
      simp [putA]
      exact fin_ir (o := irO s t x false) rfl ⟨x,false,rfl,hb.2.2.1,.inl ⟨rfl,rfl⟩⟩
  · have e1 : rText s.list none = ([],none) := rfl
    rw [e1]
    cases hn : rdT s.list a with
    | none =>
      simp [rdTA]
      intro c' _
      simp [putA]
      exact fin_ir (o := irO s t a true) rfl ⟨a,true,rfl,ha,.inr ⟨rfl,rfl⟩⟩
    | some q =>
      simp [rdTA]
      intro c' _
      simp [putA]
      exact fin_ir (o := irO s t a true) rfl ⟨a,true,rfl,ha,.inr ⟨rfl,rfl⟩⟩
theorem ir_flag {s : SL UInt8} {t : Nat} {σ : RSt} {o : AObj} (hl : s.list.length ≤ 1048576) (ho : ObI s t σ o) (c : Nat) : Con Tryz.prog 128 [.ptr 0 t 3 0 0] [o] c fun r O _ => IrQ s t (rFlag s.list σ).2 (.bool (rFlag s.list σ).1) r O := by
  refine con_of c128 (by simp [F128]) ?_
  unfold F128
  simp
  refine call_ir rfl ho .int (ir_num hl ho _) fun o' c' _ ho' => ?_
  by_cases h1 : 1 < (rNum s.list σ).1
  · have e2 : (rFlag s.list σ).2 = none := by unfold rFlag; simp only; rw [if_pos h1]
    have e1 : (rFlag s.list σ).1 = false := by unfold rFlag; simp; omega
    have hi : (1 : Int) < (rNum s.list σ).1 := by omega
    have hi1 : ¬ ((rNum s.list σ).1 : Int) = 1 := by omega
    have hn : ¬ (rNum s.list σ).1 = 1 := by omega
    obtain ⟨a,b,rfl,ha,hσ⟩ := ho'
    simp [irO,h1,hi,hi1,hn,putA]
    rw [e1,e2]
    exact fin_ir (o := irO s t a true) (by rfl) ⟨a,true,rfl,ha,.inr ⟨rfl,rfl⟩⟩
  · have e2 : (rFlag s.list σ).2 = (rNum s.list σ).2 := by unfold rFlag; simp only; rw [if_neg h1]
    have e1 : (rFlag s.list σ).1 = decide ((rNum s.list σ).1 = 1) := rfl
    have hi : ¬ (1 : Int) < (rNum s.list σ).1 := by omega
    have hq : (decide (((rNum s.list σ).1 : Int) = 1)) = decide ((rNum s.list σ).1 = 1) := by congr 1; apply propext; omega
    rw [e1,e2]
    simp [h1,hi,hq]
    exact fin_ir (by rfl) ho'
set_option maxRecDepth 100000
def stN (σ : RSt) : Int := match σ with | none => -1 | some a => (a : Int)
def orO (s : SL UInt8) (t : Nat) (σ : RSt) : AObj := ⟨false,t,2,[[s.av 1 byteRow,.int .i64 (stN σ)]]⟩
def StIn (s : SL UInt8) (σ : RSt) : Prop := ∀ a,σ = some a → a ≤ s.list.length
theorem av_orO (s : SL UInt8) (t : Nat) (σ : RSt) : AvRows [] (orO s t σ) := by
  intro r j x y hx hy
  have h1 := List.mem_of_getElem? hx
  simp [orO] at h1
  subst h1
  have h2 := List.mem_of_getElem? hy
  simp at h2
  rcases h2 with rfl | rfl
  · exact av_bytes s
  · exact .int
def OrQ (s : SL UInt8) (t : Nat) (σ : RSt) (v : AV) (r : AV) (O : List AObj) : Prop := O = [orO s t σ] ∧ r = v
theorem call_or {P : Program} {K : AV → List AObj → Nat → Prop} {f i c t : Nat} {s : SL UInt8} {σ σ' : RSt} {args : List AV} {H : List AObj} {v : AV} (hi : H[i]? = some (orO s t σ)) (hv : Av [] v) (hf : Con P f (.ptr 0 t 2 0 0 :: args) [orO s t σ] c fun r O _ => OrQ s t σ' v r O)
    (k : ∀ c',c ≤ c' → K v (H.set i (orO s t σ')) c') : CallW P f (.ptr i t 2 0 0 :: args) H c K :=
  call_at hi hf (.cons .namep (Views.refl [] args)) fun r O c' hc ⟨hO,hr⟩ => ⟨_,hO,rfl,by rw [hr]; exact hv,av_orO _ _ _,by rw [hr]; exact k c' hc⟩
theorem fin_or {s : SL UInt8} {t c : Nat} {σ : RSt} {v : AV} {H : List AObj} (hH : H.head? = some (orO s t σ)) : finW (fun r O _ => OrQ s t σ v r O) v H c := by
  cases H with
  | nil => simp at hH
  | cons x l =>
    simp at hH
    subst hH
    exact ⟨[],[_],[_],v,by simp,.refl _ _,by simp,by simp [tags],.refl _,rfl,rfl⟩
theorem rNum_le (b : List UInt8) (σ : RSt) : (rNum b σ).1 ≤ 1000000000000 := by
  cases σ with
  | none => simp [rNum]
  | some a =>
    cases hn : rdN b a with
    | none => simp [rNum,hn]
    | some q =>
      have := rdN_bnd hn
      simp [rNum,hn]
      exact this.1
theorem rNum_in {s : SL UInt8} {σ : RSt} : StIn s (rNum s.list σ).2 := fun a h => by
  obtain ⟨_,_,_,h⟩ := cons_of_some (cons_num s.list) h
  exact h
theorem rText_in {s : SL UInt8} {σ : RSt} : StIn s (rText s.list σ).2 := fun a h => by
  obtain ⟨_,_,_,h⟩ := cons_of_some (cons_text s.list) h
  exact h
theorem rFlag_in {s : SL UInt8} {σ : RSt} : StIn s (rFlag s.list σ).2 := fun a h => by
  obtain ⟨_,_,_,h⟩ := cons_of_some (cons_flag s.list) h
  exact h
set_option maxHeartbeats 1000000 in
theorem or_num {s : SL UInt8} {t : Nat} {σ : RSt} (hl : s.list.length ≤ 1048576) (ho : StIn s σ) (c : Nat) : Con Tryz.prog 76 [.ptr 0 t 2 0 0] [orO s t σ] c fun r O _ => OrQ s t (rNum s.list σ).2 (.int .i64 (rNum s.list σ).1) r O := by
  refine con_of c76 (by simp [F76]) ?_
  unfold F76
  cases σ with
  | none =>
    have e1 : rNum s.list none = (0,none) := rfl
    rw [e1]
    simp [orO,stN]
    refine ⟨fun _ v => v = rdNA none,callD_fn0 (spec_rdNneg (by omega)) (fun v => Iff.rfl) (fun _ _ _ => free_rdN _) ?_⟩
    simp [rdNA]
    intro c' _
    simp [putA]
    exact fin_or (σ := none) rfl
  | some a =>
    have ha := ho a rfl
    simp [orO,stN]
    refine ⟨fun _ v => v = rdNA (rdN s.list a),callD_fn0 (spec_rdN (by omega) (by omega)) (fun v => Iff.rfl) (fun _ _ _ => free_rdN _) ?_⟩
    cases hn : rdN s.list a with
    | none =>
      have e1 : rNum s.list (some a) = (0,none) := by simp only [rNum,hn]
      rw [e1]
      simp [rdNA]
      intro c' _
      simp [putA]
      exact fin_or (σ := none) rfl
    | some q =>
      obtain ⟨n,x⟩ := q
      have e1 : rNum s.list (some a) = (n,some x) := by simp only [rNum,hn]
      rw [e1]
      simp [rdNA]
      intro c' _
      simp [putA]
      exact fin_or (σ := some x) rfl
theorem spec_rdTneg {s : SL UInt8} (hl : s.list.length ≤ 1099511627776) : Fnc Tryz.prog 162 [s.av 1 byteRow,.int .i64 (-1),.int .i64 s.list.length] (rdTA none) := by
  refine fn_of c162 (by simp [F162]) fun c => ?_
  unfold F162
  simp
  refine call_fn0 (spec_rdNneg hl) (free_rdN _) fun c1 hc1 => ?_
  simp [rdNA]
  exact fin_plain ⟨rfl,rfl⟩
set_option maxHeartbeats 1000000 in
theorem or_text {s : SL UInt8} {t : Nat} {σ : RSt} (hl : s.list.length ≤ 1048576) (ho : StIn s σ) (c : Nat) : Con Tryz.prog 121 [.ptr 0 t 2 0 0] [orO s t σ] c fun r O _ => OrQ s t (rText s.list σ).2 (.str (rText s.list σ).1) r O := by
  refine con_of c121 (by simp [F121]) ?_
  unfold F121
  cases σ with
  | none =>
    have e1 : rText s.list none = ([],none) := rfl
    rw [e1]
    simp [orO,stN]
    refine ⟨fun _ v => v = rdTA none,callD_fn0 (spec_rdTneg (by omega)) (fun v => Iff.rfl) (fun _ _ _ => free_rdT _) ?_⟩
    simp [rdTA]
    intro c' _
    simp [putA]
    exact fin_or (σ := none) rfl
  | some a =>
    have ha := ho a rfl
    simp [orO,stN]
    refine ⟨fun _ v => v = rdTA (rdT s.list a),callD_fn0 (spec_rdT (by omega) (by omega)) (fun v => Iff.rfl) (fun _ _ _ => free_rdT _) ?_⟩
    cases hn : rdT s.list a with
    | none =>
      have e1 : rText s.list (some a) = ([],none) := by simp only [rText,hn]
      rw [e1]
      simp [rdTA]
      intro c' _
      simp [putA]
      exact fin_or (σ := none) rfl
    | some q =>
      obtain ⟨n,x⟩ := q
      have e1 : rText s.list (some a) = (n,some x) := by simp only [rText,hn]
      rw [e1]
      simp [rdTA]
      intro c' _
      simp [putA]
      exact fin_or (σ := some x) rfl
theorem or_flag {s : SL UInt8} {t : Nat} {σ : RSt} (hl : s.list.length ≤ 1048576) (ho : StIn s σ) (c : Nat) : Con Tryz.prog 123 [.ptr 0 t 2 0 0] [orO s t σ] c fun r O _ => OrQ s t (rFlag s.list σ).2 (.bool (rFlag s.list σ).1) r O := by
  refine con_of c123 (by simp [F123]) ?_
  unfold F123
  simp
  refine call_or rfl .int (or_num hl ho _) fun c' _ => ?_
  by_cases h1 : 1 < (rNum s.list σ).1
  · have e2 : (rFlag s.list σ).2 = none := by unfold rFlag; simp only; rw [if_pos h1]
    have e1 : (rFlag s.list σ).1 = false := by unfold rFlag; simp; omega
    have hi : (1 : Int) < (rNum s.list σ).1 := by omega
    have hi1 : ¬ ((rNum s.list σ).1 : Int) = 1 := by omega
    have hn : ¬ (rNum s.list σ).1 = 1 := by omega
    simp [orO,h1,hi,hi1,hn,putA]
    rw [e1,e2]
    exact fin_or (σ := none) (by rfl)
  · have e2 : (rFlag s.list σ).2 = (rNum s.list σ).2 := by unfold rFlag; simp only; rw [if_neg h1]
    have e1 : (rFlag s.list σ).1 = decide ((rNum s.list σ).1 = 1) := rfl
    have hi : ¬ (1 : Int) < (rNum s.list σ).1 := by omega
    have hq : (decide (((rNum s.list σ).1 : Int) = 1)) = decide ((rNum s.list σ).1 = 1) := by congr 1; apply propext; omega
    rw [e1,e2]
    simp [h1,hi,hq]
    exact fin_or (by rfl)
set_option maxRecDepth 100000
theorem call_grow {P : Program} {f c i : Nat} {l l' : List AV} {a : AObj} {H : List AObj} {Q K : AV → List AObj → Nat → Prop} (hi : H[i]? = some a) (hf : Con P f l' [a] c Q) (hv : Views [] l l')
    (k : ∀ r O c',c ≤ c' → Q r O c' → ∃ a' N r',O = a' :: N ∧ a'.tag = a.tag ∧ View [] r r' ∧ Av [] r' ∧ AvRows [] a' ∧ (∀ o,o ∈ N → AvRows [] o) ∧ K r' (H.set i a' ++ N) c') : CallW P f l H c K := by
  obtain ⟨hil,hy⟩ := List.getElem?_eq_some_iff.1 hi
  have e : ∀ X : AObj,H.set i X = H.take i ++ X :: H.drop (i + 1) := fun X => by rw [List.set_eq_take_append_cons_drop,if_pos hil]
  have e0 : H = H.take i ++ a :: H.drop (i + 1) := by rw [← e,← hy,List.set_getElem_self]
  intro hn hlt
  obtain ⟨h1,h2⟩ := hv.spec
  have ha : a ∈ H := List.mem_of_getElem? hi
  refine ⟨[a],[],l',Q,List.singleton_sublist.2 ha,by simp,by simp [tags],h1,h2,hf,fun r O c' hc hq ho hd => ?_⟩
  obtain ⟨a',N,r',rfl,ht,k1,k2,k3,k3b,k4⟩ := k r O c' hc hq
  generalize H.take i = A at e e0
  generalize H.drop (i + 1) = C at e e0
  rw [e] at k4
  rw [e0] at hn hlt
  have eT : tags (A ++ a :: C) = tags A ++ a.tag :: tags C := by simp [tags]
  rw [eT] at hn hlt
  obtain ⟨n1,n2,n3⟩ := List.nodup_append.1 hn
  obtain ⟨n4,n5⟩ := List.nodup_cons.1 n2
  obtain ⟨d1,d2⟩ := List.nodup_cons.1 (show (a'.tag :: tags N).Nodup from hd)
  have hN : ∀ x,x ∈ tags N → c ≤ x := fun x hx => by
    rcases Nat.lt_or_ge x c with h | h
    · have h3 := ho x h (List.mem_cons_of_mem _ hx)
      simp [tags] at h3
      rw [ht,← h3] at d1
      exact absurd hx d1
    · exact h
  have eN : tags (A ++ a' :: C ++ N) = (tags A ++ a.tag :: tags C) ++ tags N := by simp [tags,ht]
  refine ⟨A ++ a' :: C ++ N,r',fun o h => ?_,?_,k1,k2,fun o _ h => ?_,k4⟩
  · simp only [List.mem_append,List.mem_cons] at h
    rcases h with (h | rfl | h) | h
    · refine .inr ⟨by rw [e0]; simp [h],fun hm => ?_⟩
      simp [tags] at hm
      exact n3 _ (mem_tags h) _ (List.mem_cons_self ..) hm
    · exact .inl List.mem_cons_self
    · refine .inr ⟨by rw [e0]; simp [h],fun hm => ?_⟩
      simp [tags] at hm
      exact n4 (hm ▸ mem_tags h)
    · exact .inl (List.mem_cons_of_mem _ h)
  · rw [eN]
    refine List.nodup_append.2 ⟨hn,d2,fun x hx y hy => ?_⟩
    have h3 := hlt x hx
    have h4 := hN y hy
    omega
  · rcases List.mem_cons.1 h with rfl | h
    · exact k3
    · exact k3b o h
def LsQ {α : Type} (Ob : AObj → Prop) (w : Nat) (enc : α → List AV) (L : List α) (r : AV) (O : List AObj) : Prop := ∃ o tp,r = .ref 0 tp w L.length ∧ O = [o,⟨false,tp,w,L.map enc⟩] ∧ Ob o
theorem fin_ls {α : Type} {Ob : AObj → Prop} {w c tp n : Nat} {enc : α → List AV} {L : List α} {o : AObj} {rows : List (List AV)} (ho : Ob o) (hn : n = L.length) (hr : rows = L.map enc) {T : List AObj} : finW (fun r O _ => LsQ Ob w enc L r O) (.ref 1 tp w n) (o :: ⟨false,tp,w,rows⟩ :: T) c := by
  subst hn hr
  exact ⟨[],[o,⟨false,tp,w,L.map enc⟩],[o,⟨false,tp,w,L.map enc⟩],.ref 0 tp w L.length,by simp,.refl _ _,by simp,by simp [tags],.name,o,tp,rfl,rfl,ho⟩
theorem rep_step {α : Type} {f : RSt → α × RSt} {m n a : Nat} (h : m = n + 1) : rRep f m (some a) = ((f (some a)).1 :: (rRep f n (f (some a)).2).1,(rRep f n (f (some a)).2).2) := by subst h; rfl
def RepAt {α : Type} (f : RSt → α × RSt) (R : List α × RSt) (L : List α) (m : Nat) (σ : RSt) : Prop := R = (L ++ (rRep f m σ).1,(rRep f m σ).2) ∧ ∀ a,σ = some a → L.length ≤ a
theorem RepAt.nil {α : Type} {f : RSt → α × RSt} {m : Nat} {σ : RSt} : RepAt f (rRep f m σ) [] m σ := ⟨rfl,fun _ _ => Nat.zero_le _⟩
theorem RepAt.step {α : Type} {b : List UInt8} {f : RSt → α × RSt} {g : α → Nat} (hc : Cons b f g) {R : List α × RSt} {L : List α} {m n a : Nat} (h : RepAt f R L m (some a)) (hm : m = n + 1) : RepAt f R (L ++ [(f (some a)).1]) n (f (some a)).2 := by
  refine ⟨by rw [h.1,rep_step hm]; simp,fun a' ha' => ?_⟩
  have h1 := h.2 a rfl
  have h2 := (hc.eat a a' ha').1
  simp
  omega
theorem RepAt.none {α : Type} {f : RSt → α × RSt} {R : List α × RSt} {L : List α} {m : Nat} (h : RepAt f R L m none) : R = (L,Option.none) := by rw [h.1,rep_none]; simp
theorem RepAt.zero {α : Type} {f : RSt → α × RSt} {R : List α × RSt} {L : List α} {σ : RSt} (h : RepAt f R L 0 σ) : R = (L,σ) := by rw [h.1]; simp [rRep]
set_option maxHeartbeats 2000000 in
theorem ir_params {s : SL UInt8} {t : Nat} {σ : RSt} {o : AObj} (hl : s.list.length ≤ 1048576) (ho : ObI s t σ o) (c : Nat) : Con Tryz.prog 127 [.ptr 0 t 3 0 0] [o] c fun r O _ => LsQ (ObI s t (rList s.list (rParam s.list) σ).2) 2 TParam.enc (rList s.list (rParam s.list) σ).1 r O := by
  refine con_of c127 (by simp [F127]) ?_
  unfold F127
  simp
  refine call_ir rfl ho .int (ir_num hl ho _) fun o1 c1 _ ho1 => ?_
  have hR : rList s.list (rParam s.list) σ = rRep (rParam s.list) (rNum s.list σ).1 (rNum s.list σ).2 := rfl
  have hnb : (rNum s.list σ).1 ≤ 1000000000000 := rNum_le s.list σ
  generalize (rNum s.list σ).1 = n0 at hR hnb
  generalize (rNum s.list σ).2 = σ0 at hR ho1
  simp
  refine loop_drop n0 (fun k e H c' => ∃ (L : List TParam) (m : Nat) (σ1 : RSt) (o1 : AObj) (tp : Nat),m = n0 - k ∧ ObI s t σ1 o1 ∧ RepAt (rParam s.list) (rList s.list (rParam s.list) σ) L m σ1 ∧ e 0 = .ptr 0 t 3 0 0 ∧ e 3 = .ref 1 tp 2 L.length ∧ e 4 = .int .i64 m ∧ H = [o1,⟨false,tp,2,L.map TParam.enc⟩]) ⟨[],n0,σ0,o1,c,by omega,ho1,by rw [hR]; exact RepAt.nil,by simp [upd],by simp [upd],by simp [upd],by simp⟩ ?_
  intro k e H c' hk ⟨L,m,σ1,o1,tp,hm,ho1,hL,e0,e3,e4,hH⟩ N hN
  subst hH
  by_cases hm0 : m = 0
  · have hm0' : ¬ (0 : Int) < (m : Int) := by omega
    subst hm0
    have hz := hL.zero
    simp [e0,e3,e4]
    rw [hz]
    exact fin_ls ho1 rfl rfl
  have hmp : (0 : Int) < (m : Int) := by omega
  have hmp' : 0 < m := by omega
  have ho1' := ho1
  obtain ⟨a,b,rfl,ha,hσ⟩ := ho1'
  rcases hσ with ⟨rfl,rfl⟩ | ⟨rfl,rfl⟩
  rotate_left
  · have hz := hL.none
    simp [e0,e3,e4,hmp,hmp',irO]
    rw [hz]
    exact fin_ls (o := irO s t a true) ho1 rfl rfl
  have hLa := hL.2 a rfl
  have hst := hL.step (cons_param s.list) (n := m - 1) (by omega)
  have hw : IntKind.i64.wrap ((m : Int) - 1) = ((m - 1 : Nat) : Int) := by rw [wrap64 (by omega) (by omega)]; omega
  simp [e0,e3,e4,hmp,hmp',irO]
  refine call_ir (o := irO s t a false) rfl ho1 .str (ir_text hl ho1 _) fun o2 c2 _ ho2 => ?_
  simp [e0,e3,e4]
  refine call_ir rfl ho2 .bool (ir_flag hl ho2 _) fun o3 c3 _ ho3 => ?_
  have hg1 : (L.length + 1) * 24 ≤ 140737488355328 := by omega
  have hg2 : L.length + 1 ≤ mx := by unfold mx; omega
  simp [e0,e3,e4,hw,hg1,hg2,putA]
  exact hN _ _ [o3,⟨false,c3 + 1,2,(L ++ [(rParam s.list (some a)).1]).map TParam.enc⟩] _ (by omega) (by simp [TParam.enc,rParam]) ⟨L ++ [(rParam s.list (some a)).1],m - 1,(rParam s.list (some a)).2,o3,c3 + 1,by omega,ho3,hst,by simp [upd,e0],by simp [upd],by simp [upd],rfl⟩
set_option maxHeartbeats 2000000 in
theorem or_params {s : SL UInt8} {t : Nat} {σ : RSt} (hl : s.list.length ≤ 1048576) (ho : StIn s σ) (c : Nat) : Con Tryz.prog 122 [.ptr 0 t 2 0 0] [orO s t σ] c fun r O _ => LsQ (fun o => o = orO s t (rList s.list (rParam s.list) σ).2) 2 TParam.enc (rList s.list (rParam s.list) σ).1 r O := by
  refine con_of c122 (by simp [F122]) ?_
  unfold F122
  simp
  refine call_or rfl .int (or_num hl ho _) fun c1 _ => ?_
  have hR : rList s.list (rParam s.list) σ = rRep (rParam s.list) (rNum s.list σ).1 (rNum s.list σ).2 := rfl
  have hin0 := rNum_in (s := s) (σ := σ)
  have hnb : (rNum s.list σ).1 ≤ 1000000000000 := rNum_le s.list σ
  generalize (rNum s.list σ).1 = n0 at hR hnb
  generalize (rNum s.list σ).2 = σ0 at hR hin0
  simp
  refine loop_drop n0 (fun k e H c' => ∃ (L : List TParam) (m : Nat) (σ1 : RSt) (tp : Nat),m = n0 - k ∧ StIn s σ1 ∧ RepAt (rParam s.list) (rList s.list (rParam s.list) σ) L m σ1 ∧ e 0 = .ptr 0 t 2 0 0 ∧ e 3 = .ref 1 tp 2 L.length ∧ e 4 = .int .i64 m ∧ H = [orO s t σ1,⟨false,tp,2,L.map TParam.enc⟩]) ⟨[],n0,σ0,c,by omega,hin0,by rw [hR]; exact RepAt.nil,by simp [upd],by simp [upd],by simp [upd],by simp⟩ ?_
  intro k e H c' hk ⟨L,m,σ1,tp,hm,ho1,hL,e0,e3,e4,hH⟩ N hN
  subst hH
  by_cases hm0 : m = 0
  · have hm0' : ¬ (0 : Int) < (m : Int) := by omega
    subst hm0
    have hz := hL.zero
    simp [e0,e3,e4]
    rw [hz]
    exact fin_ls (Ob := fun o => o = orO s t σ1) rfl rfl rfl
  have hmp : (0 : Int) < (m : Int) := by omega
  have hmp' : 0 < m := by omega
  cases σ1 with
  | none =>
    have hz := hL.none
    simp [e0,e3,e4,hmp,hmp',orO,stN]
    rw [hz]
    exact fin_ls (Ob := fun o => o = orO s t none) (o := orO s t none) rfl rfl rfl
  | some a =>
    have hLa := hL.2 a rfl
    have ha := ho1 a rfl
    have hst := hL.step (cons_param s.list) (n := m - 1) (by omega)
    have hw : IntKind.i64.wrap ((m : Int) - 1) = ((m - 1 : Nat) : Int) := by rw [wrap64 (by omega) (by omega)]; omega
    simp [e0,e3,e4,hmp,hmp',orO,stN]
    refine call_or (σ := some a) rfl .str (or_text hl ho1 _) fun c2 _ => ?_
    simp [e0,e3,e4]
    refine call_or (σ := (rText s.list (some a)).2) rfl .bool (or_flag hl rText_in _) fun c3 _ => ?_
    have hg1 : (L.length + 1) * 24 ≤ 140737488355328 := by omega
    have hg2 : L.length + 1 ≤ mx := by unfold mx; omega
    simp [e0,e3,e4,hw,hg1,hg2,putA]
    exact hN _ _ [orO s t (rParam s.list (some a)).2,⟨false,c3 + 1,2,(L ++ [(rParam s.list (some a)).1]).map TParam.enc⟩] _ (by omega) (by simp [TParam.enc,rParam]) ⟨L ++ [(rParam s.list (some a)).1],m - 1,(rParam s.list (some a)).2,c3 + 1,by omega,rFlag_in,hst,by simp [upd,e0],by simp [upd],by simp [upd],rfl⟩
set_option maxRecDepth 100000
def mtD : Nat → Nat → List UInt8 → List UInt8
  | 0,_,acc => acc
  | f + 1,k,acc => if k = 0 then acc else mtD f (k / 10) (UInt8.ofNat (48 + k % 10) :: acc)
def mtext (k : Int) : List UInt8 := if k ≤ 0 then [109,48] else 109 :: mtD 40 k.toNat []
theorem mtext_fn {k : Int} (hk : k ≤ 1000000000000000000) : Fnc Tryz.prog 70 [.int .i64 k] (.str (mtext k)) := by
  refine fn_of c70 (by simp [F70]) fun c => ?_
  unfold F70
  simp
  refine ⟨fun h => fin_plain ⟨by simp [mtext,h],rfl⟩,fun h => ?_⟩
  have hm : mtext k = 109 :: mtD 40 k.toNat [] := by simp [mtext]; omega
  refine loop_drop 20 (fun i e H c' => ∃ (n : Nat) (acc : List UInt8),e 0 = .int .i64 n ∧ e 3 = .str acc ∧ acc.length = i ∧ n * 10 ^ i ≤ k.toNat ∧ mtD (40 - i) n acc = mtD 40 k.toNat [] ∧ H = []) ⟨k.toNat,[],by simp; omega,rfl,rfl,by simp,rfl,rfl⟩ ?_
  intro i e H c hi ⟨n,acc,e0,e3,hl,hn,hd,hH⟩ N hN
  subst hH
  simp [e0,e3]
  refine ⟨fun h => ?_,fun h => ?_⟩
  · have hi' : i < 20 := by
      rcases Nat.lt_or_ge i 20 with h1 | h1
      · exact h1
      · have : i = 20 := by omega
        subst this
        omega
    have h10 : ((n : Int)).tmod 10 = ((n % 10 : Nat) : Int) := by rw [Int.tmod_eq_emod_of_nonneg (by omega)]; omega
    have hq : ((n : Int)).tdiv 10 = ((n / 10 : Nat) : Int) := by rw [Int.tdiv_eq_ediv_of_nonneg (by omega)]; omega
    have h48 : (48 : Int) + ((n % 10 : Nat) : Int) = ((48 + n % 10 : Nat) : Int) := by omega
    have hw : IntKind.u8.wrap (IntKind.i64.wrap (48 + ((n % 10 : Nat) : Int))) = ((UInt8.ofNat (48 + n % 10)).toNat : Int) := by rw [h48]; exact wrap_u8 (by omega)
    rw [h10]
    refine toStrW_ref (l := [UInt8.ofNat (48 + n % 10)]) (by rw [hw]; rfl) rfl (by simp [mx]) ?_
    have hm1 : 1 + acc.length ≤ mx := by unfold mx; omega
    have hq' : IntKind.i64.wrap ((n / 10 : Nat) : Int) = ((n / 10 : Nat) : Int) := by
      have : n ≤ k.toNat := Nat.le_trans (Nat.le_mul_of_pos_right n (Nat.pos_of_ne_zero (by simp))) hn
      exact wrap64 (by omega) (by omega)
    simp [e0,e3,hm1,hq,hq',-Int.natCast_ediv]
    refine hN _ _ [] _ hi' (by simp) ⟨n / 10,UInt8.ofNat (48 + n % 10) :: acc,?_,?_,by simp [hl],?_,?_,rfl⟩
    · simp [upd]
    · simp [upd]
    · refine Nat.le_trans ?_ hn
      rw [Nat.pow_succ,Nat.mul_comm (10 ^ i) 10,← Nat.mul_assoc]
      exact Nat.mul_le_mul_right _ (Nat.div_mul_le_self n 10)
    · rw [← hd]
      have e40 : 40 - i = (40 - (i + 1)) + 1 := by omega
      rw [e40]
      conv => rhs; unfold mtD
      rw [if_neg (by omega)]
  · have h0 : n = 0 := by omega
    subst h0
    have ha : acc = mtD 40 k.toNat [] := by
      rw [← hd]
      have e40 : 40 - i = (39 - i) + 1 := by omega
      rw [e40]; simp [mtD]
    have hm1 : 1 + acc.length ≤ mx := by unfold mx; omega
    exact ⟨hm1,fin_plain ⟨by rw [hm,← ha],rfl⟩⟩
set_option maxRecDepth 100000
theorem encI_flat : Flat encI := fun x a ha => by simp [encI] at ha; subst ha; exact ⟨rfl,free_int _ _⟩
def TLine.encO (s : TLine) : List AV := [.int .i64 s.Seq,.int .i64 s.Owner,.int .i64 s.Version,s.Words.ref 1]
def TLine.inn (s : TLine) : List AObj := s.Words.wood 1 encI noInn
theorem TLine.lenO (s : TLine) : s.encO.length = 4 := (rfl)
theorem TLine.freeO : ∀ (x : TLine) a,a ∈ x.encO → Free a := fun x a ha => by
  simp [TLine.encO] at ha
  rcases ha with rfl | rfl | rfl | rfl
  · exact free_int _ _
  · exact free_int _ _
  · exact free_int _ _
  · exact free_ref _ _
theorem TLine.freeI : ∀ (x : TLine) o,o ∈ x.inn → ∀ T,AvRows T o := fun x o ho => flat_free encI_flat _ _ o ho
theorem TLine.viewO {S : List AObj} (x : TLine) (h : ∀ o,o ∈ x.inn → o ∈ S) : ∀ (j : Nat) (a a' : AV),x.encO[j]? = some a → x.enc[j]? = some a' → View S a a' := fun j a a' h1 h2 => by
  match j,h1,h2 with
  | 0,h1,h2 => simp [TLine.encO] at h1; simp [TLine.enc] at h2; subst h1; subst h2; exact .refl _
  | 1,h1,h2 => simp [TLine.encO] at h1; simp [TLine.enc] at h2; subst h1; subst h2; exact .refl _
  | 2,h1,h2 => simp [TLine.encO] at h1; simp [TLine.enc] at h2; subst h1; subst h2; exact .refl _
  | 3,h1,h2 => simp [TLine.encO] at h1; simp [TLine.enc] at h2; subst h1; subst h2; exact view_flat h encI_flat.cells
  | j + 4,h1,h2 => simp [TLine.encO] at h1
theorem view_line {S : List AObj} {s : SL TLine} (hs : ∀ o,o ∈ s.wood 4 TLine.encO TLine.inn → o ∈ S) : View S (s.ref 4) (s.av 4 TLine.enc) :=
  view_wood hs (fun x => TLine.cells x) (fun _ => rfl) fun x h => TLine.viewO x h
theorem toLineO {x : TLine} (h : x.sz ≤ 1048576) (c : Nat) : Con Tryz.prog 26 [.agg x.enc] [] c fun r O _ => ∃ b : TLine,r = .agg b.encO ∧ O = b.inn ∧ b.con = x.con := by
  simp only [TLine.sz] at h
  refine con_of c26 (by simp [F26]) ?_
  unfold F26
  simp [putA]
  refine call_new (toPO_fn (v := fun n => .int .i64 n) (z := .int .i64 0) (bytes := 8) c55 (fun _ _ => by simp) (by unfold szIntS at h; omega) (by unfold szIntS at h; omega) _) (Views.refl _ _) fun r O c1 hc ⟨w,hr,hO,hw⟩ _ _ => ?_
  subst hr; subst hO
  refine ⟨_,.refl _,free_ref _ _ _,fun o ho => flat_free encI_flat _ _ o ho _,?_⟩
  simp [putA]
  refine fin_sub (Hk := w.wood 1 encI noInn) ?_ (.refl _) ⟨⟨x.Seq,x.Owner,x.Version,w⟩,rfl,rfl,by simp [TLine.con,SL.pcon,hw]⟩
  exact ((List.Sublist.refl _).cons _).cons _ |>.cons _
theorem toLineSO {s : SL TLine} (h : szLineS s ≤ 1048576) (c : Nat) : Con Tryz.prog 8 [s.av 4 TLine.enc] [] c fun r H' _ => ∃ b : SL TLine,r = b.ref 4 ∧ H' = b.wood 4 TLine.encO TLine.inn ∧ b.list.map TLine.con = s.list.map TLine.con := by
  unfold szLineS at h
  exact toSO_fn (g := 26) (z := [.int .i64 0,.int .i64 0,.int .i64 0,.nsl]) (bytes := 48) c8 rfl (fun _ => rfl) TLine.lenO TLine.freeO TLine.freeI (by omega) (by omega)
    (fun x hx c => toLineO (by have := szL_mem (sz := TLine.sz) hx; omega) c) c
def mkLine (k : Int) (x : TLine) : TLine := ⟨k,k + 1,k + 2,x.Words.marks mkI cI (k + 3)⟩
def cLine (x : TLine) : Nat := 3 + x.Words.list.length
theorem mkLine_encO (k : Int) (x : TLine) : (mkLine k x).encO = [.int .i64 k,.int .i64 (k + 1),.int .i64 (k + 2),x.Words.ref 1] := by
  simp [mkLine,TLine.encO,SL.marks_ref]
theorem mkLine_tags (k : Int) (x : TLine) : tags (mkLine k x).inn = tags x.inn := flat_marks (enc := encI) (w := 1) mkI cI (k + 3) x.Words
theorem mixed_flat {α : Type} {mk : Int → α → α} {cnt : α → Nat} {k : Int} {l : List α} {inn : α → List AObj} {i : Nat} (h : i < l.length) :
    (mixed mk cnt k l i).flatMap inn = (mks mk cnt k (l.take i)).flatMap inn ++ inn l[i] ++ (l.drop (i + 1)).flatMap inn := by
  unfold mixed
  rw [List.drop_eq_getElem_cons h,List.flatMap_append,List.flatMap_cons,List.append_assoc]
theorem mixed_flat' {α : Type} {mk : Int → α → α} {cnt : α → Nat} {k : Int} {l : List α} {inn : α → List AObj} {i : Nat} (h : i < l.length) :
    (mixed mk cnt k l (i + 1)).flatMap inn = (mks mk cnt k (l.take i)).flatMap inn ++ inn (mk (k + szL cnt (l.take i)) l[i]) ++ (l.drop (i + 1)).flatMap inn := by
  unfold mixed
  rw [mks_step mk cnt k l h,List.flatMap_append,List.flatMap_append]
  simp
theorem markLine_nil (k : Int) : Fnc Tryz.prog 13 [.nsl,.int .i64 k] (.int .i64 k) := by
  refine fn_of c13 (by simp [F13]) fun c => ?_
  unfold F13
  simp
  refine loop_drop 0 (fun i e H c' => e 0 = .nsl ∧ e 1 = .int .i64 k ∧ e 5 = .int .i64 0 ∧ H = []) ⟨rfl,rfl,rfl,rfl⟩ ?_
  intro i e H c hi ⟨e0,e1,e5,hH⟩ N hN
  subst hH
  simp [e0,e1,e5]
  exact fin_plain ⟨rfl,rfl⟩
theorem markLine_con1 {l : List TLine} (hz : szL cLine l ≤ 8388608) (hw : ∀ x,x ∈ l → x.Words.list.length ≤ 1048576) {k : Int} (hk : 0 ≤ k ∧ k ≤ 549755813888) (t c : Nat) :
    Con Tryz.prog 13 [.ref 0 t 4 l.length,.int .i64 k] (wood t 4 TLine.encO TLine.inn l) c fun r H' _ => r = .int .i64 (k + szL cLine l) ∧ H' = wood t 4 TLine.encO TLine.inn (mks mkLine cLine k l) := by
  have hln : l.length ≤ szL cLine l := by
    have : ∀ l : List TLine,l.length ≤ szL cLine l := fun l => by
      induction l with
      | nil => simp
      | cons x l ih => simp [szL,cLine] at ih ⊢; omega
    exact this l
  refine con_of c13 (by simp [F13]) ?_
  unfold F13
  simp
  refine loop_drop l.length (fun i e H c' => e 0 = .ref 0 t 4 l.length ∧ e 1 = .int .i64 (k + szL cLine (l.take i)) ∧ e 5 = .int .i64 i ∧ H = ⟨false,t,4,(mixed mkLine cLine k l i).map TLine.encO⟩ :: (mixed mkLine cLine k l i).flatMap TLine.inn) ⟨rfl,by simp [szL],rfl,by rw [mixed_zero]; rfl⟩ ?_
  intro i e H c hi ⟨e0,e1,e5,hH⟩ N hN
  subst hH
  have hs := mixed_set mkLine cLine k l (i := i)
  have hst := fun h : i < l.length => szL_step cLine l h
  have hle := szL_le cLine l i
  have hfl := fun h : i < l.length => mixed_flat (mk := mkLine) (cnt := cLine) (k := k) (inn := TLine.inn) h
  have hfl' := fun h : i < l.length => mixed_flat' (mk := mkLine) (cnt := cLine) (k := k) (inn := TLine.inn) h
  generalize hjj : k + (szL cLine (l.take i) : Int) = j at e1 hs hfl'
  have w1 : IntKind.i64.wrap (j + 1) = j + 1 := wrap64 (by omega) (by omega)
  have w2 : IntKind.i64.wrap (j + 1 + 1) = j + 1 + 1 := wrap64 (by omega) (by omega)
  have w3 : IntKind.i64.wrap (j + 1 + 1 + 1) = j + 1 + 1 + 1 := wrap64 (by omega) (by omega)
  simp [e0,e1,e5]
  refine ⟨fun h => ?_,fun h => ?_⟩
  · have hs := hs h
    have hst := hst h
    have hg := mixed_get mkLine cLine k l h
    have hx := hw _ (List.getElem_mem h)
    rw [hfl h]
    have hfl' := hfl' h
    generalize l[i] = x at hs hst hg hx hfl'
    refine ⟨h,x,hg,?_⟩
    simp [e0,e1,e5,h,mixed_len,w1,w2,w3,putA,TLine.encO]
    refine call_midr (f := 36) (B := x.inn) (markI_con c36 (s := x.Words) hx (k := j + 1 + 1 + 1) ⟨by omega,by omega⟩ c) (Views.refl _ _) fun r B' c' hc ⟨q1,q2⟩ => ?_
    subst q1; subst q2
    refine ⟨flat_marks (enc := encI) (w := 1) mkI cI _ x.Words,.int,fun o ho => flat_free encI_flat _ _ o ho _,?_⟩
    simp [e0,e1,e5]
    refine hN _ _ _ _ h (List.Sublist.refl _) ⟨by simp [upd,e0],?_,by simp [upd]; exact step64 (by unfold mx; omega) h,?_⟩
    · simp [upd,hst,cLine]; omega
    · rw [hfl',← hs,List.map_set,mkLine_encO]
      simp [mkLine,TLine.inn,Int.add_assoc]
  · have h1 : i = l.length := by omega
    subst h1
    refine fin_all ⟨?_,?_⟩
    · rw [← hjj]; simp
    · rw [mixed_all]; rfl
theorem markLine_con {s : SL TLine} (hz : szL cLine s.list ≤ 8388608) (hw : ∀ x,x ∈ s.list → x.Words.list.length ≤ 1048576) {k : Int} (hk : 0 ≤ k ∧ k ≤ 549755813888) (c : Nat) :
    Con Tryz.prog 13 [s.ref 4,.int .i64 k] (s.wood 4 TLine.encO TLine.inn) c fun r H' _ => r = .int .i64 (k + szL cLine s.list) ∧ H' = (s.marks mkLine cLine k).wood 4 TLine.encO TLine.inn := by
  cases s with
  | nil =>
    have := markLine_nil k c
    simpa [SL.ref,SL.wood,SL.marks,szL] using this
  | mk t l => exact markLine_con1 (l := l) hz hw hk t c
theorem cloneIO {s : SL Int} (hn : s.list.length ≤ 1048576) (c : Nat) : Con Tryz.prog 64 [s.av 1 encI] [] c fun r O _ => ∃ x : SL Int,r = x.ref 1 ∧ O = x.wood 1 encI noInn ∧ x.list = s.list :=
  clone_con (b := 8) (z := [.int .i64 0]) c64 (by omega) (by unfold mx; omega) c
theorem szLine_bounds {l : List TLine} (h : l.length + szL TLine.sz l ≤ 1048576) : szL cLine l ≤ 8388608 ∧ (∀ x,x ∈ l → x.Words.list.length ≤ 1048576) ∧ l.length ≤ 1048576 := by
  have key : ∀ l : List TLine,szL cLine l ≤ 3 * l.length + szL TLine.sz l := fun l => by
    induction l with
    | nil => simp [szL]
    | cons x l ih =>
      have e : x.sz = x.Words.list.length := rfl
      simp only [szL,List.map_cons,List.sum_cons,List.length_cons,cLine,e] at ih ⊢; omega
  refine ⟨by have := key l; omega,fun x hx => ?_,by omega⟩
  have := szL_mem (sz := TLine.sz) hx
  have e : x.sz = x.Words.list.length := rfl
  omega
set_option maxRecDepth 100000
abbrev TEntry := TKey × TValue
@[simp] theorem vKind (k n : Int) (s : List UInt8) (x : Int) (I : SL TEntry) : (TValue.mk k n s x I).Kind = k := rfl
@[simp] theorem vNum (k n : Int) (s : List UInt8) (x : Int) (I : SL TEntry) : (TValue.mk k n s x I).Num = n := rfl
@[simp] theorem vStr (k n : Int) (s : List UInt8) (x : Int) (I : SL TEntry) : (TValue.mk k n s x I).Str = s := rfl
@[simp] theorem vNext (k n : Int) (s : List UInt8) (x : Int) (I : SL TEntry) : (TValue.mk k n s x I).Next = x := rfl
@[simp] theorem vItems (k n : Int) (s : List UInt8) (x : Int) (I : SL TEntry) : (TValue.mk k n s x I).Items = I := rfl
def TEntry.encO (e : TEntry) : List AV := [.bool e.1.Text,.int .i64 e.1.Num,.str e.1.Str,.int .i64 e.2.Kind,.int .i64 e.2.Num,.str e.2.Str,.int .i64 e.2.Next,e.2.Items.ref 8]
def TValue.innR : TValue → List AObj
  | .mk _ _ _ _ I => match I with | .nil => [] | .mk t xs => ⟨false,t,8,xs.map TEntry.encO⟩ :: (xs.attach.map fun e => e.1.2.innR).flatten
termination_by v => SizeOf.sizeOf v
decreasing_by exact items_lt (I := .mk _ xs) e.2
def TEntry.inn (e : TEntry) : List AObj := e.2.innR
def TValue.inn (v : TValue) : List AObj := v.Items.wood 8 TEntry.encO TEntry.inn
theorem innR_eq (v : TValue) : v.innR = v.inn := by
  cases v with
  | mk k n s x I =>
    rw [TValue.innR.eq_def]
    cases I with
    | nil => rfl
    | mk t xs =>
      show (⟨false,t,8,xs.map TEntry.encO⟩ :: (xs.attach.map fun e => e.1.2.innR).flatten : List AObj) = ⟨false,t,8,xs.map TEntry.encO⟩ :: xs.flatMap TEntry.inn
      rw [show (xs.attach.map fun e => e.1.2.innR) = xs.map TEntry.inn from by
        rw [show (fun e : { x // x ∈ xs } => e.1.2.innR) = TEntry.inn ∘ Subtype.val from rfl,← List.map_map,List.attach_map_subtype_val]]
      rfl
theorem TEntry.inn_eq (e : TEntry) : TEntry.inn e = e.2.inn := innR_eq e.2
theorem TEntry.freeO : ∀ (x : TEntry) a,a ∈ TEntry.encO x → Free a := fun x a ha => by
  simp [TEntry.encO] at ha
  rcases ha with rfl | rfl | rfl | rfl | rfl | rfl | rfl | rfl
  · exact free_bool _
  · exact free_int _ _
  · exact free_str _
  · exact free_int _ _
  · exact free_int _ _
  · exact free_str _
  · exact free_int _ _
  · exact free_ref _ _
theorem TValue.freeI : ∀ (x : TValue) o,o ∈ x.inn → ∀ T,AvRows T o := by
  refine TValue.ind (p := fun x => ∀ o,o ∈ x.inn → ∀ T,AvRows T o) fun k n s x I ih o ho T => ?_
  cases I with
  | nil => cases ho
  | mk t l =>
    rcases List.mem_cons.1 ho with rfl | ho
    · exact avRows_free fun row hr a ha => by
        obtain ⟨x,_,rfl⟩ := List.mem_map.1 hr
        exact TEntry.freeO x a ha
    · obtain ⟨x,hx,h2⟩ := List.mem_flatMap.1 ho
      rw [TEntry.inn_eq] at h2
      exact ih x hx o h2 T
theorem TEntry.freeI : ∀ (x : TEntry) o,o ∈ TEntry.inn x → ∀ T,AvRows T o := fun x o ho => by
  rw [TEntry.inn_eq] at ho; exact TValue.freeI x.2 o ho
theorem viewItems : ∀ (v : TValue) (S : List AObj),(∀ o,o ∈ v.inn → o ∈ S) → View S (v.Items.ref 8) (v.Items.av 8 encE) := by
  refine TValue.ind (p := fun v => ∀ (S : List AObj),(∀ o,o ∈ v.inn → o ∈ S) → View S (v.Items.ref 8) (v.Items.av 8 encE)) fun k n s x I ih S hs => ?_
  cases I with
  | nil => exact .refl _
  | mk t l =>
    have get : ∀ (r : Nat) (x x' : List AV),(l.map TEntry.encO)[r]? = some x → (l.map encE)[r]? = some x' → ∃ y,y ∈ l ∧ x = TEntry.encO y ∧ x' = encE y := fun r x x' h1 h2 => by
      rw [List.getElem?_map] at h1 h2
      obtain ⟨y,hy,rfl⟩ := Option.map_eq_some_iff.1 h1
      rw [hy] at h2
      simp at h2
      exact ⟨y,List.mem_of_getElem? hy,rfl,h2.symm⟩
    show View S (.ref 0 t 8 l.length) (.slc t 8 (l.map encE))
    refine .ref (rows := l.map TEntry.encO) (hs _ (List.mem_cons_self ..)) (by simp) (by simp) (fun r x x' h1 h2 => ?_) (fun r j x a hx ha => ?_) fun r j x x' a a' h1 h2 h3 h4 => ?_
    · obtain ⟨y,_,rfl,rfl⟩ := get r x x' h1 h2; simp [TEntry.encO]
    · obtain ⟨y,hy,rfl⟩ := List.mem_map.1 (List.mem_of_getElem? hx)
      exact encE_cells y a (List.mem_of_getElem? ha)
    · obtain ⟨y,hy,rfl,rfl⟩ := get r x x' h1 h2
      have hv := ih y hy S fun o ho => hs o (List.mem_cons_of_mem _ (List.mem_flatMap.2 ⟨y,hy,by rw [TEntry.inn_eq]; exact ho⟩))
      have e4 : encE y = [.bool y.1.Text,.int .i64 y.1.Num,.str y.1.Str,.int .i64 y.2.Kind,.int .i64 y.2.Num,.str y.2.Str,.int .i64 y.2.Next,y.2.Items.av 8 encE] := by simp [encE,TKey.enc,TValue.enc_eq]
      rw [e4] at h4
      match j,h3,h4 with
      | 0,h3,h4 => simp [TEntry.encO] at h3; simp at h4; subst h3; subst h4; exact .refl _
      | 1,h3,h4 => simp [TEntry.encO] at h3; simp at h4; subst h3; subst h4; exact .refl _
      | 2,h3,h4 => simp [TEntry.encO] at h3; simp at h4; subst h3; subst h4; exact .refl _
      | 3,h3,h4 => simp [TEntry.encO] at h3; simp at h4; subst h3; subst h4; exact .refl _
      | 4,h3,h4 => simp [TEntry.encO] at h3; simp at h4; subst h3; subst h4; exact .refl _
      | 5,h3,h4 => simp [TEntry.encO] at h3; simp at h4; subst h3; subst h4; exact .refl _
      | 6,h3,h4 => simp [TEntry.encO] at h3; simp at h4; subst h3; subst h4; exact .refl _
      | 7,h3,h4 => simp [TEntry.encO] at h3; simp at h4; subst h3; subst h4; exact hv
      | j + 8,h3,h4 => simp [TEntry.encO] at h3
theorem view_OEntry {S : List AObj} {s : SL TEntry} (hs : ∀ o,o ∈ s.wood 8 TEntry.encO TEntry.inn → o ∈ S) : View S (s.ref 8) (s.av 8 encE) := viewItems (.mk 0 0 [] 0 s) S hs
set_option maxRecDepth 100000
def TValue.cR : TValue → Nat
  | .mk _ _ _ _ I => match I with | .nil => 0 | .mk _ xs => (xs.attach.map fun e => 7 + e.1.2.cR).sum
termination_by v => SizeOf.sizeOf v
decreasing_by exact items_lt (I := .mk _ xs) e.2
def cEntry (x : TEntry) : Nat := 7 + x.2.cR
theorem cR_eq (v : TValue) : v.cR = szL cEntry v.Items.list := by
  cases v with
  | mk k n s x I =>
    rw [TValue.cR.eq_def]
    cases I with
    | nil => rfl
    | mk t xs =>
      show (xs.attach.map fun e => 7 + e.1.2.cR).sum = szL cEntry xs
      simp only [szL]
      rw [show (xs.attach.map fun e => 7 + e.1.2.cR) = xs.map cEntry from by
        rw [show (fun e : { x // x ∈ xs } => 7 + e.1.2.cR) = cEntry ∘ Subtype.val from rfl,← List.map_map,List.attach_map_subtype_val]]
theorem cEntry_eq (x : TEntry) : cEntry x = 7 + szL cEntry x.2.Items.list := by
  show 7 + x.2.cR = _
  rw [cR_eq]
def mkEf : Nat → Int → TEntry → TEntry
  | 0,_,x => x
  | n + 1,k,x => (⟨decide ((k).tmod 3 = 0),k + 1,mtext (k + 1 + 1)⟩,.mk (k + 1 + 1 + 1) (k + 1 + 1 + 1 + 1) (mtext (k + 1 + 1 + 1 + 1 + 1)) (k + 1 + 1 + 1 + 1 + 1 + 1) (x.2.Items.marks (mkEf n) cEntry (k + 1 + 1 + 1 + 1 + 1 + 1 + 1)))
theorem mkEf_encO (n : Nat) (k : Int) (x : TEntry) : TEntry.encO (mkEf (n + 1) k x) = [.bool (decide ((k).tmod 3 = 0)),.int .i64 (k + 1),.str (mtext (k + 1 + 1)),.int .i64 (k + 1 + 1 + 1),.int .i64 (k + 1 + 1 + 1 + 1),.str (mtext (k + 1 + 1 + 1 + 1 + 1)),.int .i64 (k + 1 + 1 + 1 + 1 + 1 + 1),x.2.Items.ref 8] := by
  simp [mkEf,TEntry.encO,SL.marks_ref]
theorem mkEf_tags : ∀ (n : Nat) (k : Int) (x : TEntry),tags (TEntry.inn (mkEf n k x)) = tags (TEntry.inn x)
  | 0,_,_ => rfl
  | n + 1,k,x => by
    rw [TEntry.inn_eq,TEntry.inn_eq]
    exact tags_wood (w := 8) (encO := TEntry.encO) (inn := TEntry.inn) (mk := mkEf n) (cnt := cEntry) (mkEf_tags n) _ x.2.Items
theorem szL_cEntry (l : List TEntry) : l.length ≤ szL cEntry l := by
  induction l with
  | nil => simp
  | cons x l ih =>
    have h := cEntry_eq x
    simp only [szL,List.map_cons,List.sum_cons,List.length_cons] at ih ⊢; omega
theorem markEntry_nil (k : Int) : Fnc Tryz.prog 119 [.nsl,.int .i64 k] (.int .i64 k) := by
  refine fn_of c119 (by simp [F119]) fun c => ?_
  unfold F119
  simp
  refine loop_drop 0 (fun i e H c' => e 0 = .nsl ∧ e 1 = .int .i64 k ∧ e 5 = .int .i64 0 ∧ H = []) ⟨rfl,rfl,rfl,rfl⟩ ?_
  intro i e H c hi ⟨e0,e1,e5,hH⟩ N hN
  subst hH
  simp [e0,e1,e5]
  exact fin_plain ⟨rfl,rfl⟩
theorem markEf_conS {n : Nat} (ih : ∀ {l : List TEntry},szL cEntry l ≤ n → ∀ {k : Int},0 ≤ k ∧ k + szL cEntry l ≤ 2199023255552 → ∀ t c,Con Tryz.prog 119 [.ref 0 t 8 l.length,.int .i64 k] (wood t 8 TEntry.encO TEntry.inn l) c fun r H' _ => r = .int .i64 (k + szL cEntry l) ∧ H' = wood t 8 TEntry.encO TEntry.inn (mks (mkEf n) cEntry k l))
    {s : SL TEntry} (hz : szL cEntry s.list ≤ n) {k : Int} (hk : 0 ≤ k ∧ k + szL cEntry s.list ≤ 2199023255552) (c : Nat) :
    Con Tryz.prog 119 [s.ref 8,.int .i64 k] (s.wood 8 TEntry.encO TEntry.inn) c fun r H' _ => r = .int .i64 (k + szL cEntry s.list) ∧ H' = (s.marks (mkEf n) cEntry k).wood 8 TEntry.encO TEntry.inn := by
  cases s with
  | nil =>
    have := markEntry_nil k c
    simpa [SL.ref,SL.wood,SL.marks,szL] using this
  | mk t l => exact ih (l := l) hz hk t c
theorem markEf_con1 {n : Nat} (ih : ∀ {l : List TEntry},szL cEntry l ≤ n → ∀ {k : Int},0 ≤ k ∧ k + szL cEntry l ≤ 2199023255552 → ∀ t c,Con Tryz.prog 119 [.ref 0 t 8 l.length,.int .i64 k] (wood t 8 TEntry.encO TEntry.inn l) c fun r H' _ => r = .int .i64 (k + szL cEntry l) ∧ H' = wood t 8 TEntry.encO TEntry.inn (mks (mkEf n) cEntry k l))
    {l : List TEntry} (hz : szL cEntry l ≤ n + 1) {k : Int} (hk : 0 ≤ k ∧ k + szL cEntry l ≤ 2199023255552) (t c : Nat) :
    Con Tryz.prog 119 [.ref 0 t 8 l.length,.int .i64 k] (wood t 8 TEntry.encO TEntry.inn l) c fun r H' _ => r = .int .i64 (k + szL cEntry l) ∧ H' = wood t 8 TEntry.encO TEntry.inn (mks (mkEf (n + 1)) cEntry k l) := by
  have hln := szL_cEntry l
  have hkz : (0 : Int) ≤ (szL cEntry l : Int) := by omega
  have hlb : l.length ≤ 2199023255552 := by omega
  refine con_of c119 (by simp [F119]) ?_
  unfold F119
  simp
  refine loop_drop l.length (fun i e H c' => e 0 = .ref 0 t 8 l.length ∧ e 1 = .int .i64 (k + szL cEntry (l.take i)) ∧ e 5 = .int .i64 i ∧ H = ⟨false,t,8,(mixed (mkEf (n + 1)) cEntry k l i).map TEntry.encO⟩ :: (mixed (mkEf (n + 1)) cEntry k l i).flatMap TEntry.inn) ⟨rfl,by simp [szL],rfl,by rw [mixed_zero]; rfl⟩ ?_
  intro i e H c hi ⟨e0,e1,e5,hH⟩ N hN
  subst hH
  have hs := mixed_set (mkEf (n + 1)) cEntry k l (i := i)
  have hst := fun h : i < l.length => szL_step cEntry l h
  have hle := szL_le cEntry l i
  have hle1 := szL_le cEntry l (i + 1)
  have hfl := fun h : i < l.length => mixed_flat (mk := (mkEf (n + 1))) (cnt := cEntry) (k := k) (inn := TEntry.inn) h
  have hfl' := fun h : i < l.length => mixed_flat' (mk := (mkEf (n + 1))) (cnt := cEntry) (k := k) (inn := TEntry.inn) h
  generalize hjj : k + (szL cEntry (l.take i) : Int) = j at e1 hs hfl'
  simp [e0,e1,e5]
  refine ⟨fun h => ?_,fun h => ?_⟩
  · have hs := hs h
    have hst := hst h
    have hg := mixed_get (mkEf (n + 1)) cEntry k l h
    have hx := szL_mem (sz := cEntry) (List.getElem_mem h)
    rw [hfl h]
    have hfl' := hfl' h
    generalize l[i] = x at hs hst hg hx hfl'
    generalize (mks (mkEf (n + 1)) cEntry k (l.take i)).flatMap TEntry.inn = PRE at hfl' ⊢
    generalize (l.drop (i + 1)).flatMap TEntry.inn = POST at hfl' ⊢
    rw [cEntry_eq] at hx hst
    have w0 : IntKind.i64.wrap (j + 1) = j + 1 := wrap64 (by omega) (by omega)
    have w1 : IntKind.i64.wrap (j + 1 + 1) = j + 1 + 1 := wrap64 (by omega) (by omega)
    have w2 : IntKind.i64.wrap (j + 1 + 1 + 1) = j + 1 + 1 + 1 := wrap64 (by omega) (by omega)
    have w3 : IntKind.i64.wrap (j + 1 + 1 + 1 + 1) = j + 1 + 1 + 1 + 1 := wrap64 (by omega) (by omega)
    have w4 : IntKind.i64.wrap (j + 1 + 1 + 1 + 1 + 1) = j + 1 + 1 + 1 + 1 + 1 := wrap64 (by omega) (by omega)
    have w5 : IntKind.i64.wrap (j + 1 + 1 + 1 + 1 + 1 + 1) = j + 1 + 1 + 1 + 1 + 1 + 1 := wrap64 (by omega) (by omega)
    have w6 : IntKind.i64.wrap (j + 1 + 1 + 1 + 1 + 1 + 1 + 1) = j + 1 + 1 + 1 + 1 + 1 + 1 + 1 := wrap64 (by omega) (by omega)
    refine ⟨h,x,hg,?_⟩
    simp [e0,e1,e5,h,mixed_len,w0,w1,w2,w3,w4,w5,w6,putA,TEntry.encO,TEntry.inn_eq,TValue.inn]
    refine call_fn0 (mtext_fn (by omega)) .str fun _ _ => ?_
    simp [e0,e1,e5,h,mixed_len,w0,w1,w2,w3,w4,w5,w6,putA,TEntry.encO,TEntry.inn_eq,TValue.inn]
    refine call_fn0 (mtext_fn (by omega)) .str fun _ _ => ?_
    simp [e0,e1,e5,h,mixed_len,w0,w1,w2,w3,w4,w5,w6,putA,TEntry.encO,TEntry.inn_eq,TValue.inn]
    refine call_midr (f := 119) (B := x.2.Items.wood 8 TEntry.encO TEntry.inn) (markEf_conS ih (s := x.2.Items) (by omega) (k := j + 1 + 1 + 1 + 1 + 1 + 1 + 1) ⟨by omega,by omega⟩ _) (Views.refl _ _) fun r B' c' hc ⟨q1,q2⟩ => ?_
    subst q1; subst q2
    refine ⟨tags_wood (w := 8) (encO := TEntry.encO) (inn := TEntry.inn) (mk := mkEf n) (cnt := cEntry) (mkEf_tags n) _ x.2.Items,.int,fun o ho => free_wood TEntry.freeO TEntry.freeI _ o ho _,?_⟩
    simp [e0,e1,e5,h,mixed_len,w0,w1,w2,w3,w4,w5,w6,putA,TEntry.encO,TEntry.inn_eq,TValue.inn]
    refine hN _ _ _ _ h (List.Sublist.refl _) ⟨by simp [upd,e0],?_,by simp [upd]; exact step64 (by unfold mx; omega) h,?_⟩
    · simp [upd,w0,w1,w2,w3,w4,w5,w6,hst]; omega
    · rw [hfl',← hs,List.map_set,mkEf_encO]
      simp [mkEf,TEntry.inn_eq,TValue.inn]
  · have h1 : i = l.length := by omega
    subst h1
    refine fin_all ⟨?_,?_⟩
    · rw [← hjj]; simp
    · rw [mixed_all]; rfl
theorem mark_empty (k : Int) (t c : Nat) (m : Int → TEntry → TEntry) : Con Tryz.prog 119 [.ref 0 t 8 0,.int .i64 k] (wood t 8 TEntry.encO TEntry.inn []) c fun r H' _ => r = .int .i64 (k + szL cEntry []) ∧ H' = wood t 8 TEntry.encO TEntry.inn (mks m cEntry k []) := by
  refine con_of c119 (by simp [F119]) ?_
  unfold F119
  simp
  refine loop_drop 0 (fun i e H c' => e 0 = .ref 0 t 8 0 ∧ e 1 = .int .i64 k ∧ e 5 = .int .i64 0 ∧ H = [⟨false,t,8,[]⟩]) ⟨rfl,rfl,rfl,rfl⟩ ?_
  intro i e H c hi ⟨e0,e1,e5,hH⟩ N hN
  subst hH
  simp [e0,e1,e5]
  exact fin_all ⟨by simp [szL],rfl⟩
theorem markEf_con : ∀ (n : Nat) {l : List TEntry},szL cEntry l ≤ n → ∀ {k : Int},0 ≤ k ∧ k + szL cEntry l ≤ 2199023255552 → ∀ t c,Con Tryz.prog 119 [.ref 0 t 8 l.length,.int .i64 k] (wood t 8 TEntry.encO TEntry.inn l) c fun r H' _ => r = .int .i64 (k + szL cEntry l) ∧ H' = wood t 8 TEntry.encO TEntry.inn (mks (mkEf n) cEntry k l)
  | 0,l,hz,k,hk,t,c => by
    have hl : l = [] := List.length_eq_zero_iff.1 (by have := szL_cEntry l; omega)
    subst hl
    exact mark_empty k t c _
  | n + 1,l,hz,k,hk,t,c => markEf_con1 (fun hz => markEf_con n hz) hz hk t c
def FU : Nat := 16777216
def mkEntry (k : Int) (x : TEntry) : TEntry := mkEf FU k x
theorem mkEntry_tags (k : Int) (x : TEntry) : tags (TEntry.inn (mkEntry k x)) = tags (TEntry.inn x) := mkEf_tags FU k x
theorem markEntry_con {s : SL TEntry} (hz : szL cEntry s.list ≤ 16777216) {k : Int} (hk : 0 ≤ k ∧ k ≤ 1099511627776) (c : Nat) :
    Con Tryz.prog 119 [s.ref 8,.int .i64 k] (s.wood 8 TEntry.encO TEntry.inn) c fun r H' _ => r = .int .i64 (k + szL cEntry s.list) ∧ H' = (s.marks mkEntry cEntry k).wood 8 TEntry.encO TEntry.inn :=
  markEf_conS (n := FU) (fun hz => markEf_con FU hz) hz ⟨hk.1,by omega⟩ c
theorem encS_flat : Flat encS := fun x a ha => by simp [encS] at ha; subst ha; exact ⟨rfl,free_str _⟩
def mkS (k : Int) (x : List UInt8) : List UInt8 := mtext k
def cS (x : List UInt8) : Nat := 1
theorem szL_cS (l : List (List UInt8)) : szL cS l = l.length := by
  show szL (fun _ => 1) l = _
  rw [szL_const]; omega
theorem markString_nil (k : Int) : Fnc Tryz.prog 72 [.nsl,.int .i64 k] (.int .i64 k) := by
  refine fn_of c72 (by simp [F72]) fun c => ?_
  unfold F72
  simp
  refine loop_drop 0 (fun i e H c' => e 0 = .nsl ∧ e 1 = .int .i64 k ∧ e 5 = .int .i64 0 ∧ H = []) ⟨rfl,rfl,rfl,rfl⟩ ?_
  intro i e H c hi ⟨e0,e1,e5,hH⟩ N hN
  subst hH
  simp [e0,e1,e5]
  exact fin_plain ⟨rfl,rfl⟩
theorem markString_con1 {l : List (List UInt8)} (hz : l.length ≤ 16777216) {k : Int} (hk : 0 ≤ k ∧ k ≤ 1099511627776) (t c : Nat) :
    Con Tryz.prog 72 [.ref 0 t 1 l.length,.int .i64 k] [⟨false,t,1,l.map encS⟩] c fun r H' _ => r = .int .i64 (k + szL cS l) ∧ H' = [⟨false,t,1,(mks mkS cS k l).map encS⟩] := by
  refine con_of c72 (by simp [F72]) ?_
  unfold F72
  simp
  refine loop_drop l.length (fun i e H c' => e 0 = .ref 0 t 1 l.length ∧ e 1 = .int .i64 (k + szL cS (l.take i)) ∧ e 5 = .int .i64 i ∧ H = [⟨false,t,1,(mixed mkS cS k l i).map encS⟩]) ⟨rfl,by simp [szL],rfl,by rw [mixed_zero]⟩ ?_
  intro i e H c hi ⟨e0,e1,e5,hH⟩ N hN
  subst hH
  have hs := mixed_set mkS cS k l (i := i)
  have hst := fun h : i < l.length => szL_step cS l h
  have hle : szL cS (l.take i) ≤ 16777216 := by rw [szL_cS,List.length_take]; omega
  generalize hjj : k + (szL cS (l.take i) : Int) = j at e1 hs
  simp [e0,e1,e5]
  refine ⟨fun h => ?_,fun h => ?_⟩
  · have hs := hs h
    have hst := hst h
    have w0 : IntKind.i64.wrap (j + 1) = j + 1 := wrap64 (by omega) (by omega)
    refine call_fn0 (mtext_fn (by omega)) .str fun _ _ => ?_
    simp [e0,e1,e5,h,mixed_len,w0,putA]
    refine ⟨_,mixed_get mkS cS k l h,?_⟩
    refine hN _ _ _ _ h (List.Sublist.refl _) ⟨by simp [upd,e0],?_,by simp [upd]; exact step64 (by unfold mx; omega) h,?_⟩
    · simp [upd,w0,hst,cS]; omega
    · rw [← hs,List.map_set]
      simp [mkS,encS]
  · have h1 : i = l.length := by omega
    subst h1
    refine fin_all ⟨?_,?_⟩
    · rw [← hjj]; simp
    · rw [mixed_all]
theorem markString_con {s : SL (List UInt8)} (hz : szL cS s.list ≤ 16777216) {k : Int} (hk : 0 ≤ k ∧ k ≤ 1099511627776) (c : Nat) :
    Con Tryz.prog 72 [s.ref 1,.int .i64 k] (s.wood 1 encS noInn) c fun r H' _ => r = .int .i64 (k + szL cS s.list) ∧ H' = (s.marks mkS cS k).wood 1 encS noInn := by
  cases s with
  | nil =>
    have := markString_nil k c
    simpa [SL.ref,SL.wood,SL.marks,szL] using this
  | mk t l =>
    have := markString_con1 (l := l) (by have := szL_cS l; simp at hz; omega) hk t c
    simpa [SL.ref,SL.wood,SL.marks,wood_flat] using this
end A
end Go.Proofs.YtgalkppgeoknaaaGreatDoor
