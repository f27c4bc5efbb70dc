/-
  OpenSession of the reference and of the program are the same plain function. No condition.
-/
import Derived.Test.YtgiiipbpadgcgaaAreS
import Derived.Test.YtgiiipbpadgcgaaSave
namespace Go.Proofs.Ytgiiipbpadgcgaa
namespace A
set_option linter.unusedVariables false
set_option linter.unusedSimpArgs false
set_option maxRecDepth 100000

/-- What opening answers: the list, the data, the code. -/
def openS (id : List UInt8) (who now : Int) (l : List TSession) : List TSession × List UInt8 × Int :=
  if isName id && areSessions l && inR who 1 1000000000000 && inR now 0 1000000000000 then
    match findS id l 0 with
    | .ofNat k => (match l[k]? with
      | some x => if x.Holder = 0 then (l.set k { x with Holder := who }, x.Data, 0) else (l, [], 2)
      | none => (l, [], 1))
    | _ => if 8 ≤ l.length then (l, [], 3) else (l ++ [⟨id, [], who, now⟩], [], 0)
  else (l, [], 1)

def OpenQ (id : List UInt8) (who now : Int) (l : List TSession) (x : SL TSession) (r : List AV) : Prop := x.list = (openS id who now l).1 ∧ r = [.str (openS id who now l).2.1, .int .i64 (openS id who now l).2.2]

theorem openS_bad {id : List UInt8} {who now : Int} {l : List TSession} (h : (isName id && areSessions l && inR who 1 1000000000000 && inR now 0 1000000000000) = false) : openS id who now l = (l, [], 1) := by
  unfold openS; rw [h]; rfl
theorem openS_at {id : List UInt8} {who now : Int} {l : List TSession} {k : Nat} (h : (isName id && areSessions l && inR who 1 1000000000000 && inR now 0 1000000000000) = true) (hk : findS id l 0 = k) (hl : k < l.length) :
    openS id who now l = if l[k].Holder = 0 then (l.set k { l[k] with Holder := who }, l[k].Data, 0) else (l, [], 2) := by
  unfold openS; rw [if_pos h, hk]; simp [hl]
theorem openS_no {id : List UInt8} {who now : Int} {l : List TSession} (h : (isName id && areSessions l && inR who 1 1000000000000 && inR now 0 1000000000000) = true) (hk : findS id l 0 < 0) :
    openS id who now l = if 8 ≤ l.length then (l, [], 3) else (l ++ [⟨id, [], who, now⟩], [], 0) := by
  have : findS id l 0 = -1 := by rcases findS_range id l 0 with h1 | h1 <;> omega
  unfold openS; rw [if_pos h, this]; rfl

theorem spec_openO {s : SL TSession} {id : List UInt8} {who now : Int} (hs : okSessionS s) (hid : id.length ≤ mx) (hn : s.list.length ≤ 1048576) (c : Nat) :
    Con Try.prog 64 [s.av 4 TSession.enc, .str id, .int .i64 who, .int .i64 now] [] c fun r O _ => ∃ (x : SL TSession) (l : List AV), r = .tup (x.ref 4 :: l) ∧ O = x.wood 4 TSession.enc noInn ∧ OpenQ id who now s.list x l := by
  refine con_of c64 (by simp [F64]) ?_
  unfold F64
  simp
  refine ⟨by omega, by unfold mx; omega, ?_⟩
  refine call_fn0 (spec_find hs.1) .int fun _ _ => ?_
  simp
  refine call_fn0 (spec_isName hid) .bool fun _ _ => ?_
  have fin : ∀ c' (cd : Int) (dt : List UInt8), (s.list, dt, cd) = openS id who now s.list → finW (fun r O _ => ∃ (x : SL TSession) (l : List AV), r = .tup (x.ref 4 :: l) ∧ O = x.wood 4 TSession.enc noInn ∧ OpenQ id who now s.list x l)
      (.tup [.ref 0 (c + 1) 4 s.list.length, .str dt, .int .i64 cd]) [⟨false, c + 1, 4, s.list.map TSession.enc⟩] c' := fun c' cd dt hb => fin_all ⟨.mk (c + 1) s.list, [.str dt, .int .i64 cd], rfl, by simp [flat_wood], by unfold OpenQ; rw [← hb]; exact ⟨rfl, rfl⟩⟩
  cases h1 : isName id
  · simp
    exact fin _ _ _ (openS_bad (by simp [h1])).symm
  simp
  refine call_fn0 (spec_areS hs) .bool fun _ _ => ?_
  cases h2 : areSessions s.list
  · simp
    exact fin _ _ _ (openS_bad (by simp [h2])).symm
  simp
  refine call_fn0 (l1In_fn _ _ _) .bool fun _ _ => ?_
  cases h3 : inR who 1 1000000000000
  · simp
    exact fin _ _ _ (openS_bad (by simp [h3])).symm
  simp
  refine call_fn0 (l1In_fn _ _ _) .bool fun cc _ => ?_
  cases h4 : inR now 0 1000000000000
  · simp
    exact fin _ _ _ (openS_bad (by simp [h4])).symm
  have hg : (isName id && areSessions s.list && inR who 1 1000000000000 && inR now 0 1000000000000) = true := by simp [h1, h2, h3, h4]
  by_cases h0 : 0 ≤ findS id s.list 0
  · obtain ⟨k, hk, hkl⟩ := findS_nat h0
    have ho := openS_at hg hk hkl
    have hgk : s.list[k]? = some s.list[k] := List.getElem?_eq_getElem hkl
    simp [hk]
    refine ⟨_, hgk, ?_⟩
    by_cases h5 : s.list[k].Holder = 0
    · simp [hk, h5, hkl]
      rw [if_pos h5] at ho
      refine ⟨_, hgk, ?_⟩
      simp [hk, h5, hkl, putA]
      refine ⟨_, hgk, ?_⟩
      simp [hk, h5, hkl]
      exact fin_all ⟨.mk (c + 1) (openS id who now s.list).1, _, by simp [SL.ref, ho]; rfl, by simp [flat_wood, ho, List.map_set, TSession.enc], by unfold OpenQ; rw [ho]; exact ⟨rfl, rfl⟩⟩
    · simp [hk, h5]
      exact fin _ _ _ (by rw [ho, if_neg h5])
  · have h0' : findS id s.list 0 < 0 := by omega
    have ho := openS_no hg h0'
    have h0'' : ¬ (0 ≤ findS id s.list 0) := h0
    by_cases h5 : (8 : Int) ≤ s.list.length
    · simp [h0, h5]
      exact fin _ _ _ (by rw [ho, if_pos (by omega)])
    · have hm1 : s.list.length + 1 ≤ mx := by unfold mx; omega
      have hm2 : (s.list.length + 1) * 48 ≤ 140737488355328 := by omega
      simp [h0, h5, putA, hm1, hm2]
      refine fin_sub (sub_one _ _) (.refl _) ⟨.mk (cc + 1) (openS id who now s.list).1, [.str [], .int .i64 0], by rw [ho, if_neg (by omega)]; simp [SL.ref], by rw [ho, if_neg (by omega)]; simp [flat_wood, TSession.enc], by unfold OpenQ; rw [ho, if_neg (by omega)]; exact ⟨rfl, rfl⟩⟩

theorem impl_openO {s : SL TSession} {id : List UInt8} {who now : Int} (hs : okSessionS s) (hid : id.length ≤ mx) (hn : s.list.length ≤ 1048576) (c : Nat) :
    Con Try.prog 57 [s.av 4 TSession.enc, .str id, .int .i64 who, .int .i64 now] [] c fun r O _ => ∃ (x : SL TSession) (l : List AV), r = .tup (x.ref 4 :: l) ∧ O = x.wood 4 TSession.enc noInn ∧ OpenQ id who now s.list x l := by
  refine con_of c57 (by simp [F57]) ?_
  unfold F57
  simp
  refine call_new (cloneSO hn _) (Views.refl _ _) fun r O c1 hc ⟨x, hr, hO, hx⟩ _ _ => ?_
  subst hr
  refine ⟨_, .refl _, free_ref _ _ _, fun o ho => by subst hO; exact flat_free TSession.flat _ _ o ho _, ?_⟩
  simp
  refine call_fn (impl_isName hid) (Views.refl _ _) .bool fun _ _ => ?_
  have fin : ∀ c' (cd : Int) (dt : List UInt8), (s.list, dt, cd) = openS id who now s.list → finW (fun r O _ => ∃ (x : SL TSession) (l : List AV), r = .tup (x.ref 4 :: l) ∧ O = x.wood 4 TSession.enc noInn ∧ OpenQ id who now s.list x l)
      (.tup [x.ref 4, .str dt, .int .i64 cd]) O c' := fun c' cd dt hb => fin_all ⟨x, [.str dt, .int .i64 cd], rfl, hO, by unfold OpenQ; rw [← hb]; exact ⟨hx, rfl⟩⟩
  cases h1 : isName id
  · simp
    exact fin _ _ _ (openS_bad (by simp [h1])).symm
  simp
  refine call_fn (impl_areS hs) (Views.refl _ _) .bool fun _ _ => ?_
  cases h2 : areSessions s.list
  · simp
    exact fin _ _ _ (openS_bad (by simp [h2])).symm
  simp
  refine call_fn (inRange_fn _ _ _) (Views.refl _ _) .bool fun _ _ => ?_
  cases h3 : inR who 1 1000000000000
  · simp
    exact fin _ _ _ (openS_bad (by simp [h3])).symm
  simp
  refine call_fn (inRange_fn _ _ _) (Views.refl _ _) .bool fun _ _ => ?_
  cases h4 : inR now 0 1000000000000
  · simp
    exact fin _ _ _ (openS_bad (by simp [h4])).symm
  simp
  refine call_fn (impl_find hs.1) (Views.refl _ _) .int fun cc _ => ?_
  have hg : (isName id && areSessions s.list && inR who 1 1000000000000 && inR now 0 1000000000000) = true := by simp [h1, h2, h3, h4]
  by_cases h0 : 0 ≤ findS id s.list 0
  · obtain ⟨k, hk, hkl⟩ := findS_nat h0
    have ho := openS_at hg hk hkl
    have hgk : s.list[k]? = some s.list[k] := List.getElem?_eq_getElem hkl
    simp [hk]
    refine ⟨_, hgk, ?_⟩
    by_cases h5 : s.list[k].Holder = 0
    · rw [if_pos h5] at ho
      cases x with
      | nil => rw [← hx] at hkl; simp at hkl
      | mk t l =>
        simp only [SL.list_mk] at hx
        subst hx
        rw [flat_wood] at hO
        subst hO
        simp [hk, h5, hkl, putA, ref_mk]
        refine ⟨_, hgk, ?_⟩
        simp [hk, h5, hkl, TSession.enc]
        exact fin_all ⟨.mk t (openS id who now s.list).1, [.str s.list[k].Data, .int .i64 0], by simp [SL.ref, ho], by simp [flat_wood, ho, List.map_set, TSession.enc], by unfold OpenQ; rw [ho]; exact ⟨rfl, rfl⟩⟩
    · simp [hk, h5]
      exact fin _ _ _ (by rw [ho, if_neg h5])
  · have h0' : findS id s.list 0 < 0 := by omega
    have ho := openS_no hg h0'
    by_cases h5 : (8 : Int) ≤ s.list.length
    · simp [h0, h5]
      exact fin _ _ _ (by rw [ho, if_pos (by omega)])
    · have hm1 : s.list.length + 1 ≤ mx := by unfold mx; omega
      have hm2 : (s.list.length + 1) * 48 ≤ 140737488355328 := by omega
      cases x with
      | nil =>
        have hx' : s.list = [] := hx.symm
        have hO' : O = [] := hO
        subst hO'
        rw [hx'] at h0
        simp [h0, putA, ref_nil, hx']
        have : 1 ≤ mx := by decide
        exact ⟨this, fin_sub (v' := .tup [.ref 0 (cc + 1) 4 1, .str [], .int .i64 0]) (List.sublist_cons_self _ _) (view_tup (.cons .name (Views.refl _ _))) ⟨.mk (cc + 1) [⟨id, [], who, now⟩], [.str [], .int .i64 0], rfl, by simp [flat_wood, TSession.enc], by rw [hx'] at ho; unfold OpenQ; rw [ho, if_neg (by simp)]; exact ⟨rfl, rfl⟩⟩⟩
      | mk t l =>
        simp only [SL.list_mk] at hx
        subst hx
        rw [flat_wood] at hO
        subst hO
        simp [h0, h5, putA, hm1, hm2, ref_mk]
        refine fin_sub (sub_one _ _) (.refl _) ⟨.mk (cc + 1) (openS id who now s.list).1, [.str [], .int .i64 0], by rw [ho, if_neg (by omega)]; simp [SL.ref], by rw [ho, if_neg (by omega)]; simp [flat_wood, TSession.enc], by unfold OpenQ; rw [ho, if_neg (by omega)]; exact ⟨rfl, rfl⟩⟩
theorem openF {id : List UInt8} {who now : Int} {l : List TSession} (x : SL TSession) (r : List AV) (h : OpenQ id who now l x r) : ∀ a, a ∈ r → Free a := fun a ha => by
  rw [h.2] at ha; simp at ha
  rcases ha with rfl | rfl
  · exact free_str _
  · exact free_int _ _
theorem spec_open {s : SL TSession} {id : List UInt8} {who now : Int} (hs : okSessionS s) (hid : id.length ≤ mx) (hn : s.list.length ≤ 1048576) : Tr Try.prog 64 [s.av 4 TSession.enc, .str id, .int .i64 who, .int .i64 now] fun _ r => ∃ (x : SL TSession) (l : List AV), r = .tup (x.av 4 TSession.enc :: l) ∧ OpenQ id who now s.list x l :=
  flat_tr2 TSession.flat openF (spec_openO hs hid hn)
theorem impl_open {s : SL TSession} {id : List UInt8} {who now : Int} (hs : okSessionS s) (hid : id.length ≤ mx) (hn : s.list.length ≤ 1048576) : Tr Try.prog 57 [s.av 4 TSession.enc, .str id, .int .i64 who, .int .i64 now] fun _ r => ∃ (x : SL TSession) (l : List AV), r = .tup (x.av 4 TSession.enc :: l) ∧ OpenQ id who now s.list x l :=
  flat_tr2 TSession.flat openF (impl_openO hs hid hn)
theorem len_open {id : List UInt8} {who now : Int} (l : List TSession) : (openS id who now l).1.length ≤ l.length + 1 := by
  unfold openS
  split
  · split
    · split
      · split <;> simp
      · simp
    · split <;> simp
  · simp
theorem szL_app {α : Type} (sz : α → Nat) (l m : List α) : szL sz (l ++ m) = szL sz l + szL sz m := by simp [szL]
theorem size_open {id : List UInt8} {who now : Int} (l : List TSession) : (openS id who now l).1.length + szL TSession.sz (openS id who now l).1 ≤ l.length + 1 + (2 * szL TSession.sz l + id.length) := by
  unfold openS
  split
  · split
    · rename_i k hk
      split
      · rename_i x hx
        split
        · have h1 := szL_set TSession.sz { x with Holder := who } l k
          have h2 := szL_mem (sz := TSession.sz) (List.mem_of_getElem? hx)
          have h3 : TSession.sz { x with Holder := who } = TSession.sz x := rfl
          simp; omega
        · simp; omega
      · simp; omega
    · split
      · simp; omega
      · have h3 : TSession.sz ⟨id, [], who, now⟩ = id.length := rfl
        simp only [szL_app]
        simp [szL, h3]; omega
  · simp; omega
end A
end Go.Proofs.Ytgiiipbpadgcgaa
