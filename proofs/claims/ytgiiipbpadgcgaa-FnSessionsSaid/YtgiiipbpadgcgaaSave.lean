/-
  SaveSession of the reference and of the program are the same plain function. No condition.
-/
import Derived.Test.YtgiiipbpadgcgaaSweep
import Derived.Test.YtgiiipbpadgcgaaFind
namespace Go.Proofs.Ytgiiipbpadgcgaa
namespace A
set_option linter.unusedVariables false
set_option linter.unusedSimpArgs false
set_option maxRecDepth 100000

theorem findS_range (id : List UInt8) : ∀ (l : List TSession) (i : Nat), findS id l i = -1 ∨ (i ≤ findS id l i ∧ findS id l i < i + l.length)
  | [], i => .inl rfl
  | x :: l, i => by
    unfold findS
    split
    · right; simp; omega
    · rcases findS_range id l (i + 1) with h | h
      · exact .inl h
      · right; simp; omega
theorem findS_nat {id : List UInt8} {l : List TSession} (h : 0 ≤ findS id l 0) : ∃ k : Nat, findS id l 0 = k ∧ k < l.length := by
  rcases findS_range id l 0 with h1 | h1
  · omega
  · exact ⟨(findS id l 0).toNat, by omega, by omega⟩

/-- Whether it is saved. -/
def savesS (id : List UInt8) (who : Int) (data : List UInt8) (now : Int) (l : List TSession) : Bool :=
  match findS id l 0 with
  | .ofNat k => (match l[k]? with | some x => decide (1 ≤ who) && decide (x.Holder = who) && decide (data.length ≤ 2000) && inR now 0 1000000000000 | none => false)
  | _ => false
def saveS (id : List UInt8) (who : Int) (data : List UInt8) (now : Int) (l : List TSession) : List TSession := if savesS id who data now l then l.set (findS id l 0).toNat ⟨id, data, 0, now⟩ else l

theorem savesS_at {id : List UInt8} {who : Int} {data : List UInt8} {now : Int} {l : List TSession} {k : Nat} (hk : findS id l 0 = k) (h : k < l.length) :
    savesS id who data now l = (decide (1 ≤ who) && decide (l[k].Holder = who) && decide (data.length ≤ 2000) && inR now 0 1000000000000) := by
  unfold savesS; rw [hk]; simp [h]
theorem savesS_no {id : List UInt8} {who : Int} {data : List UInt8} {now : Int} {l : List TSession} (h : findS id l 0 < 0) : savesS id who data now l = false := by
  unfold savesS
  have : findS id l 0 = -1 := by rcases findS_range id l 0 with h1 | h1 <;> omega
  rw [this]; rfl

theorem spec_saveO {s : SL TSession} {id data : List UInt8} {who now : Int} (hn : s.list.length ≤ 1048576) (c : Nat) :
    Con Try.prog 39 [s.av 4 TSession.enc, .str id, .int .i64 who, .str data, .int .i64 now] [] c fun r O _ => ∃ (x : SL TSession) (l : List AV), r = .tup (x.ref 4 :: l) ∧ O = x.wood 4 TSession.enc noInn ∧ x.list = saveS id who data now s.list ∧ l = [.bool (savesS id who data now s.list)] := by
  refine con_of c39 (by simp [F39]) ?_
  unfold F39
  simp
  refine ⟨by omega, by unfold mx; omega, ?_⟩
  refine call_fn0 (spec_find (by unfold mx; omega)) .int fun _ _ => ?_
  have bad : ∀ c', savesS id who data now s.list = false → finW (fun r O _ => ∃ (x : SL TSession) (l : List AV), r = .tup (x.ref 4 :: l) ∧ O = x.wood 4 TSession.enc noInn ∧ x.list = saveS id who data now s.list ∧ l = [.bool (savesS id who data now s.list)])
      (.tup [.ref 0 (c + 1) 4 s.list.length, .bool false]) [⟨false, c + 1, 4, s.list.map TSession.enc⟩] c' := fun c' hb => fin_all ⟨.mk (c + 1) s.list, [.bool false], rfl, by simp [flat_wood], by simp [saveS, hb], by rw [hb]⟩
  by_cases h0 : findS id s.list 0 < 0
  · simp [h0]
    exact bad _ (savesS_no h0)
  simp [h0]
  obtain ⟨k, hk, hkl⟩ := findS_nat (id := id) (l := s.list) (by omega)
  have hs := savesS_at (who := who) (data := data) (now := now) hk hkl
  have hg : s.list[k]? = some s.list[k] := List.getElem?_eq_getElem hkl
  by_cases h1 : who < 1
  · simp [h0, h1, hk]
    exact bad _ (by rw [hs]; simp; omega)
  simp [h0, h1, hk]
  refine ⟨_, hg, ?_⟩
  by_cases h2 : s.list[k].Holder = who
  rotate_left
  · simp [h0, h1, hk, h2]
    exact bad _ (by rw [hs]; simp [h2])
  simp [h0, h1, hk, h2]
  by_cases h3 : (2000 : Int) < data.length
  · simp [h0, h1, hk, h2, h3]
    exact bad _ (by rw [hs]; simp [h2]; intros; omega)
  simp [h0, h1, hk, h2, h3]
  refine call_fn0 (l1In_fn _ _ _) .bool fun _ _ => ?_
  cases h4 : inR now 0 1000000000000
  · simp [h0, h1, hk, h2, h3]
    exact bad _ (by rw [hs]; simp [h4])
  have hgood : savesS id who data now s.list = true := by rw [hs]; simp [h2, h4]; omega
  simp [h0, h1, hk, h2, h3, putA, hkl]
  refine ⟨_, hg, ?_⟩
  simp
  exact fin_all ⟨.mk (c + 1) (saveS id who data now s.list), [.bool true], by simp [SL.ref, saveS, hgood], by simp [flat_wood, saveS, hgood, hk, List.map_set, TSession.enc], rfl, by rw [hgood]⟩
theorem impl_saveO {s : SL TSession} {id data : List UInt8} {who now : Int} (hn : s.list.length ≤ 1048576) (c : Nat) :
    Con Try.prog 40 [s.av 4 TSession.enc, .str id, .int .i64 who, .str data, .int .i64 now] [] c fun r O _ => ∃ (x : SL TSession) (l : List AV), r = .tup (x.ref 4 :: l) ∧ O = x.wood 4 TSession.enc noInn ∧ x.list = saveS id who data now s.list ∧ l = [.bool (savesS id who data now s.list)] := by
  refine con_of c40 (by simp [F40]) ?_
  unfold F40
  simp
  refine call_new (cloneSO hn _) (Views.refl _ _) fun r O c1 hc ⟨x, hr, hO, hx⟩ _ _ => ?_
  subst hr
  refine ⟨_, .refl _, free_ref _ _ _, fun o ho => by subst hO; exact flat_free TSession.flat _ _ o ho _, ?_⟩
  simp
  refine call_fn (impl_find (by unfold mx; omega)) (Views.refl _ _) .int fun _ _ => ?_
  have bad : ∀ c', savesS id who data now s.list = false → finW (fun r O _ => ∃ (x : SL TSession) (l : List AV), r = .tup (x.ref 4 :: l) ∧ O = x.wood 4 TSession.enc noInn ∧ x.list = saveS id who data now s.list ∧ l = [.bool (savesS id who data now s.list)])
      (.tup [x.ref 4, .bool false]) O c' := fun c' hb => fin_all ⟨x, [.bool false], rfl, hO, by simp [saveS, hb, hx], by rw [hb]⟩
  by_cases h0 : findS id s.list 0 < 0
  · simp [h0]
    exact bad _ (savesS_no h0)
  simp [h0]
  obtain ⟨k, hk, hkl⟩ := findS_nat (id := id) (l := s.list) (by omega)
  have hs := savesS_at (who := who) (data := data) (now := now) hk hkl
  have hg : s.list[k]? = some s.list[k] := List.getElem?_eq_getElem hkl
  by_cases h1 : who < 1
  · simp [h0, h1, hk]
    exact bad _ (by rw [hs]; simp; omega)
  simp [h0, h1, hk]
  refine ⟨_, hg, ?_⟩
  by_cases h2 : s.list[k].Holder = who
  rotate_left
  · simp [h0, h1, hk, h2]
    exact bad _ (by rw [hs]; simp [h2])
  simp [h0, h1, hk, h2]
  by_cases h3 : (2000 : Int) < data.length
  · simp [h0, h1, hk, h2, h3]
    exact bad _ (by rw [hs]; simp [h2]; intros; omega)
  simp [h0, h1, hk, h2, h3]
  refine call_fn0 (inRange_fn _ _ _) .bool fun _ _ => ?_
  cases h4 : inR now 0 1000000000000
  · simp [h0, h1, hk, h2, h3]
    exact bad _ (by rw [hs]; simp [h4])
  have hgood : savesS id who data now s.list = true := by rw [hs]; simp [h2, h4]; omega
  cases x with
  | nil => rw [← hx] at hkl; simp at hkl
  | mk t l =>
    simp only [SL.list_mk] at hx
    subst hx
    rw [flat_wood] at hO
    subst hO
    simp [h0, h1, hk, h2, h3, putA, hkl, SL.ref]
    refine ⟨_, hg, ?_⟩
    simp
    exact fin_all ⟨.mk t (saveS id who data now s.list), [.bool true], by simp [SL.ref, saveS, hgood], by simp [flat_wood, saveS, hgood, hk, List.map_set, TSession.enc], rfl, by rw [hgood]⟩
theorem spec_save {s : SL TSession} {id data : List UInt8} {who now : Int} (hn : s.list.length ≤ 1048576) : Tr Try.prog 39 [s.av 4 TSession.enc, .str id, .int .i64 who, .str data, .int .i64 now] fun _ r => ∃ (x : SL TSession) (l : List AV), r = .tup (x.av 4 TSession.enc :: l) ∧ x.list = saveS id who data now s.list ∧ l = [.bool (savesS id who data now s.list)] :=
  flat_tr2 TSession.flat (Q := fun x l => x.list = saveS id who data now s.list ∧ l = [.bool (savesS id who data now s.list)]) (fun x l h a ha => by rw [h.2] at ha; simp at ha; subst ha; exact free_bool _) (spec_saveO hn)
theorem impl_save {s : SL TSession} {id data : List UInt8} {who now : Int} (hn : s.list.length ≤ 1048576) : Tr Try.prog 40 [s.av 4 TSession.enc, .str id, .int .i64 who, .str data, .int .i64 now] fun _ r => ∃ (x : SL TSession) (l : List AV), r = .tup (x.av 4 TSession.enc :: l) ∧ x.list = saveS id who data now s.list ∧ l = [.bool (savesS id who data now s.list)] :=
  flat_tr2 TSession.flat (Q := fun x l => x.list = saveS id who data now s.list ∧ l = [.bool (savesS id who data now s.list)]) (fun x l h a ha => by rw [h.2] at ha; simp at ha; subst ha; exact free_bool _) (impl_saveO hn)
theorem len_save {id data : List UInt8} {who now : Int} (l : List TSession) : (saveS id who data now l).length = l.length := by
  unfold saveS; split <;> simp
theorem szL_set {α : Type} (sz : α → Nat) (x : α) : ∀ (l : List α) (i : Nat), szL sz (l.set i x) ≤ szL sz l + sz x
  | [], i => by simp [szL]
  | y :: l, 0 => by simp [szL]; omega
  | y :: l, i + 1 => by
    have := szL_set sz x l i
    simp [szL] at this ⊢; omega
theorem findS_id {id : List UInt8} : ∀ {l : List TSession} {i k : Nat} (h : findS id l i = (i + k : Nat)) (hk : k < l.length), l[k].Id = id
  | [], i, k, h, hk => by simp at hk
  | x :: l, i, k, h, hk => by
    unfold findS at h
    split at h
    · have : k = 0 := by omega
      subst this
      simpa
    · cases k with
      | zero => rcases findS_range id l (i + 1) with h1 | h1 <;> omega
      | succ k => exact findS_id (l := l) (i := i + 1) (k := k) (by rw [h]; omega) (by simpa using hk)
theorem size_save {id data : List UInt8} {who now : Int} (l : List TSession) : (saveS id who data now l).length + szL TSession.sz (saveS id who data now l) ≤ l.length + (2 * szL TSession.sz l + 2000) := by
  rw [len_save]
  unfold saveS
  split
  · rename_i h
    have h0 : 0 ≤ findS id l 0 := by
      rcases Int.lt_or_le (findS id l 0) 0 with h1 | h1
      · rw [savesS_no h1] at h; cases h
      · exact h1
    obtain ⟨k, hk, hkl⟩ := findS_nat h0
    rw [savesS_at hk hkl] at h
    simp at h
    have hid := findS_id (l := l) (i := 0) (k := k) (by rw [hk]; simp) hkl
    have h1 := szL_set TSession.sz ⟨id, data, 0, now⟩ l (findS id l 0).toNat
    have h2 := szL_mem (sz := TSession.sz) (List.getElem_mem hkl)
    have h3 : TSession.sz l[k] = id.length + (l[k].Data).length := by rw [← hid]; rfl
    have h4 : TSession.sz ⟨id, data, 0, now⟩ = id.length + data.length := rfl
    omega
  · omega
end A
end Go.Proofs.Ytgiiipbpadgcgaa
