/-
  The list of sessions that is drawn. No condition.
-/
import Derived.Test.YtgiiipbpadgcgaaCur2
import Derived.Test.YtgiiipbpadgcgaaSave
import Derived.Test.YtgiiipbpadgcgaaOpen
namespace Go.Proofs.Ytgiiipbpadgcgaa
namespace A
set_option linter.unusedVariables false
set_option linter.unusedSimpArgs false
set_option maxRecDepth 100000

theorem view_flat_at {α : Type} {enc : α → List AV} {S : List AObj} {w i : Nat} {s : SL α} (hs : ∀ o, o ∈ s.wood w enc noInn → o ∈ S) (hc : ∀ x a, a ∈ enc x → a.cell = true) : View S (s.at_ i w) (s.av w enc) := by
  cases s with
  | nil => exact .refl _
  | mk t l =>
    exact .ref (rows := l.map enc) (hs _ (by rw [flat_wood]; simp)) (by simp) (by simp) (fun r x x' h1 h2 => by rw [h1] at h2; cases h2; rfl)
      (fun r j x a hx ha => by
        obtain ⟨y, _, rfl⟩ := List.mem_map.1 (List.mem_of_getElem? hx)
        exact hc y a (List.mem_of_getElem? ha))
      (fun r j x x' a a' h1 h2 h3 h4 => by rw [h1] at h2; cases h2; rw [h3] at h4; cases h4; exact .refl _)
theorem free_at {α : Type} (i w : Nat) (s : SL α) : Free (s.at_ i w) := fun T => by cases s <;> constructor
theorem view_at_at {α : Type} (i j w : Nat) (s : SL α) (S : List AObj) : View S (s.at_ i w) (s.at_ j w) := by cases s <;> constructor

def smallS (k : Nat) (l : List TSession) : Prop := l.length ≤ k ∧ ∀ x, x ∈ l → x.Id.length ≤ 64 ∧ x.Data.length ≤ 64
theorem save_small {k : Nat} {l : List TSession} {id data : List UInt8} {who now : Int} (h : smallS k l) (h1 : id.length ≤ 16) (h2 : data.length ≤ 16) : smallS k (saveS id who data now l) := by
  unfold saveS
  split
  · refine ⟨by simpa using h.1, fun x hx => ?_⟩
    rcases List.mem_or_eq_of_mem_set hx with hx | rfl
    · exact h.2 x hx
    · exact ⟨by show id.length ≤ 64; omega, by show data.length ≤ 64; omega⟩
  · exact h
theorem open_small {k : Nat} {l : List TSession} {id : List UInt8} {who now : Int} (h : smallS k l) (h1 : id.length ≤ 16) : smallS (k + 1) (openS id who now l).1 := by
  have h' : smallS (k + 1) l := ⟨by have := h.1; omega, h.2⟩
  unfold openS
  split
  · split
    · split
      · rename_i x hx
        split
        · refine ⟨by have := h.1; simp; omega, fun y hy => ?_⟩
          rcases List.mem_or_eq_of_mem_set hy with hy | rfl
          · exact h.2 y hy
          · exact h.2 x (List.mem_of_getElem? hx)
        · exact h'
      · exact h'
    · split
      · exact h'
      · refine ⟨by have := h.1; simp; omega, fun y hy => ?_⟩
        rcases List.mem_append.1 hy with hy | hy
        · exact h.2 y hy
        · simp at hy; subst hy; exact ⟨by show id.length ≤ 64; omega, by simp⟩
  · exact h'
theorem small_ok {k : Nat} {s : SL TSession} (h : smallS k s.list) (hk : k ≤ 64) : okSessionS s := ⟨by have := h.1; unfold mx; omega, fun x hx => ⟨by have := (h.2 x hx).1; unfold mx; omega, by have := (h.2 x hx).2; unfold mx; omega⟩⟩

/-- The list under way. -/
def LiveS (t : Nat) (s : SL Int) (k : Nat) (v : AV) (H : List AObj) : Prop := ∃ (b : SL TSession) (J : List AObj) (i : Nat) (h : Int), v = b.at_ (J.length + 1) 4 ∧ H = cur t s i h :: (J ++ b.wood 4 TSession.enc noInn) ∧ i ≤ s.list.length ∧ smallS k b.list

/-- The list that is drawn. -/
def LiveF (t : Nat) (s : SL Int) (v : AV) (H : List AObj) : Prop := ∃ (b : SL TSession) (i : Nat) (h : Int), v = b.at_ 1 4 ∧ H = cur t s i h :: b.wood 4 TSession.enc noInn ∧ i ≤ s.list.length ∧ smallS 16 b.list

theorem append_at {b : SL TSession} {J : List AObj} {a : AObj} {x : TSession} {tn c : Nat} {K : AV → List AObj → Nat → Prop} (hb : b.list.length ≤ 64)
    (k : ∀ (b' : SL TSession) (J' H' : List AObj), b'.list = b.list ++ [x] → (a :: (J' ++ b'.wood 4 TSession.enc noInn)).Sublist H' → K (b'.at_ (J'.length + 1) 4) H' (c + 1)) :
    appendW 4 48 (b.at_ (J.length + 1) 4) (.ref (J.length + (b.wood 4 TSession.enc noInn).length + 1) tn 4 1) (a :: (J ++ (b.wood 4 TSession.enc noInn ++ [⟨false, tn, 4, [x.enc]⟩]))) c K := by
  have hg : (a :: (J ++ (b.wood 4 TSession.enc noInn ++ [⟨false, tn, 4, [x.enc]⟩])))[J.length + (b.wood 4 TSession.enc noInn).length + 1]? = some ⟨false, tn, 4, [x.enc]⟩ := by
    rw [List.getElem?_cons_succ, List.getElem?_append_right (by omega), List.getElem?_append_right (by omega)]
    simp
  refine ⟨rfl, _, hg, rfl, rfl, rfl, by simp, ?_⟩
  cases b with
  | nil =>
    refine ⟨fun h => by simp at h, fun _ => ⟨by simp, by unfold mx; simp, ?_⟩⟩
    have := k (.mk c [x]) (J ++ [⟨false, tn, 4, [x.enc]⟩]) _ rfl (List.Sublist.refl _)
    have ew : (SL.mk c [x]).wood 4 TSession.enc noInn = [⟨false, c, 4, [x.enc]⟩] := flat_wood ..
    have en : (SL.nil : SL TSession).wood 4 TSession.enc noInn = [] := rfl
    rw [ew] at this
    simpa [SL.at_, en] using this
  | mk tb l =>
    have hl : l.length ≤ 64 := hb
    have hg' : (a :: (J ++ ((SL.mk tb l).wood 4 TSession.enc noInn ++ [⟨false, tn, 4, [x.enc]⟩])))[J.length + 1]? = some ⟨false, tb, 4, l.map TSession.enc⟩ := by
      rw [List.getElem?_cons_succ, List.getElem?_append_right (by omega), flat_wood]
      simp
    refine ⟨rfl, _, hg', rfl, rfl, rfl, by simp, by simp; omega, by simp; unfold mx; omega, ?_⟩
    have := k (.mk c (l ++ [x])) J ((a :: (J ++ ((SL.mk tb l).wood 4 TSession.enc noInn ++ [⟨false, tn, 4, [x.enc]⟩]))).set (J.length + 1) ⟨false, c, 4, l.map TSession.enc ++ [x.enc]⟩) rfl (by
      rw [List.set_cons_succ, List.set_append_right _ _ (by omega), flat_wood, flat_wood]
      simp)
    simpa [SL.at_] using this

theorem l37Draw_con {t i : Nat} {h : Int} {s : SL Int} (hi : i ≤ s.list.length) (hn : s.list.length ≤ 1048576) (c : Nat) :
    Con Try.prog 93 [.ptr 0 t 3 0 0] [cur t s i h] c fun r O _ => LiveF t s r O := by
  refine con_of c93 (by simp [F93]) ?_
  unfold F93
  simp
  refine call_num (l1Below_con hi hn (by omega) _) fun x i1 h1 c1 _ x0 x1 k1 => ?_
  rw [if_neg (by omega)] at x1
  obtain ⟨x, rfl⟩ := Int.eq_ofNat_of_zero_le x0
  simp
  refine loop_drop x (fun j e H c' => e 0 = .ptr 0 t 3 0 0 ∧ e 4 = .int .i64 (x - j : Nat) ∧ LiveS t s j (e 3) H) ⟨rfl, rfl, .mk c [], [], i1, h1, rfl, rfl, k1, by simp [smallS]⟩ ?_
  intro j e H c' hj ⟨e0, e4, b, J, i2, h2, e3, hH, k2, hb⟩ N hN
  subst hH
  have hbl : b.list.length ≤ 1048576 := by have := hb.1; omega
  by_cases hd : x - j = 0
  · simp [e0, e3, e4, hd]
    have hj7 : j ≤ 7 := by omega
    refine loop_drop 8 (fun m e H c' => e 0 = .ptr 0 t 3 0 0 ∧ ∃ (b : SL TSession) (J : List AObj) (i : Nat) (h : Int), e 3 = b.at_ (J.length + 1) 4 ∧ H = cur t s i h :: (J ++ b.wood 4 TSession.enc noInn) ∧ i ≤ s.list.length ∧ smallS 8 b.list ∧ m ≤ b.list.length) ⟨by simp [upd, e0], b, J, i2, h2, by simp [upd, e3], rfl, k2, ⟨by have := hb.1; omega, hb.2⟩, by omega⟩ ?_
    intro m e H c' hm ⟨e0, b, J, i2, h2, e3, hH, k2, hb, hml⟩ N hN
    subst hH
    simp [e0, e3]
    refine call_bool (l1Once_con (n := 12) k2 hn (by omega) _) fun q i3 h3 c3 _ k3 => ?_
    have thr : ∀ e' : Env, e' 0 = .ptr 0 t 3 0 0 → True := fun _ _ => trivial
    cases q
    · simp [e0, e3]
      refine call_bool (l1Once_con (n := 12) k3 hn (by omega) _) fun q i4 h4 c4 _ k4 => ?_
      have fin : ∀ c', finW (fun r O _ => LiveF t s r O) (b.at_ (J.length + 1) 4) (cur t s i4 h4 :: (J ++ b.wood 4 TSession.enc noInn)) c' := fun c' => fin_sub (Hk := cur t s i4 h4 :: b.wood 4 TSession.enc noInn) ((List.sublist_append_right _ _).cons_cons _) (view_at_at _ 1 _ _ _) ⟨b, i4, h4, rfl, rfl, k4, by have := hb.1; omega, hb.2⟩
      cases q
      · simp [e0, e3]
        exact fin _
      · by_cases h9 : 0 < b.list.length
        · simp [e0, e3, h9]
          refine call_any (l1Odd_con k4 hn _) fun od i5 h5 c5 _ k5 => ?_
          cases b with
          | nil => simp at h9
          | mk tb l =>
            cases l with
            | nil => simp at h9
            | cons y l =>
              simp [e0, e3, SL.at_, flat_wood]
              refine fin_sub (Hk := cur t s i5 h5 :: (SL.mk tb ({ y with At := od } :: l)).wood 4 TSession.enc noInn) ?_ (view_at_at (J.length + 1) 1 4 (SL.mk tb ({ y with At := od } :: l)) _) ⟨.mk tb ({ y with At := od } :: l), i5, h5, rfl, rfl, k5, by have := hb.1; simp at this ⊢; omega, fun w hw => ?_⟩
              · rw [flat_wood]; exact (List.sublist_append_right _ _).cons_cons _
              rcases List.mem_cons.1 hw with rfl | hw
              · exact hb.2 y (List.mem_cons_self ..)
              · exact hb.2 w (List.mem_cons_of_mem _ hw)
        · simp [e0, e3, h9]
          exact fin _
    · by_cases h8 : (b.list.length : Int) < 8
      · obtain ⟨fx, hfl, hfn⟩ := fmtDigit (n := b.list.length) (by omega)
        have hmx : ([122] : List UInt8).length + fx.length ≤ mx := by simp; unfold mx; omega
        simp [e0, e3, h8]
        refine call_fn hfn (Views.refl _ _) .str fun _ _ => ?_
        simp [e0, e3, h8, hmx, putA]
        refine ⟨by simpa [Nat.add_comm] using hmx, ?_⟩
        refine append_at (x := ⟨122 :: fx, [], 0, 0⟩) (by have := hb.1; omega) fun b' J' H' hb' hsub => ?_
        simp [e0, e3]
        have hm8 : m < 8 := by omega
        refine hN _ _ _ _ hm8 hsub ⟨by simp [upd, e0], b', J', i3, h3, by simp [upd], rfl, k3, ⟨by rw [hb']; simp; omega, fun y hy => ?_⟩, by rw [hb']; simp; omega⟩
        rw [hb'] at hy
        rcases List.mem_append.1 hy with hy | hy
        · exact hb.2 y hy
        · simp at hy; subst hy; exact ⟨by show (122 :: fx).length ≤ 64; simp; omega, by simp⟩
      · simp [e0, e3, h8]
        refine call_bool (l1Once_con (n := 12) k3 hn (by omega) _) fun q i4 h4 c4 _ k4 => ?_
        have fin : ∀ c', finW (fun r O _ => LiveF t s r O) (b.at_ (J.length + 1) 4) (cur t s i4 h4 :: (J ++ b.wood 4 TSession.enc noInn)) c' := fun c' => fin_sub (Hk := cur t s i4 h4 :: b.wood 4 TSession.enc noInn) ((List.sublist_append_right _ _).cons_cons _) (view_at_at _ 1 _ _ _) ⟨b, i4, h4, rfl, rfl, k4, by have := hb.1; omega, hb.2⟩
        cases q
        · simp [e0, e3]
          exact fin _
        · by_cases h9 : 0 < b.list.length
          · simp [e0, e3, h9]
            refine call_any (l1Odd_con k4 hn _) fun od i5 h5 c5 _ k5 => ?_
            cases b with
            | nil => simp at h9
            | mk tb l =>
              cases l with
              | nil => simp at h9
              | cons y l =>
                simp [e0, e3, SL.at_, flat_wood]
                refine fin_sub (Hk := cur t s i5 h5 :: (SL.mk tb ({ y with At := od } :: l)).wood 4 TSession.enc noInn) ?_ (view_at_at (J.length + 1) 1 4 (SL.mk tb ({ y with At := od } :: l)) _) ⟨.mk tb ({ y with At := od } :: l), i5, h5, rfl, rfl, k5, by have := hb.1; simp at this ⊢; omega, fun w hw => ?_⟩
                · rw [flat_wood]; exact (List.sublist_append_right _ _).cons_cons _
                rcases List.mem_cons.1 hw with rfl | hw
                · exact hb.2 y (List.mem_cons_self ..)
                · exact hb.2 w (List.mem_cons_of_mem _ hw)
          · simp [e0, e3, h9]
            exact fin _
  · have hjx : j < x := by omega
    have hdec : IntKind.i64.wrap (((x - j : Nat) : Int) - 1) = ((x - (j + 1) : Nat) : Int) := by rw [wrap64 (by omega) (by omega)]; omega
    have hp : 0 < x - j := by omega
    simp [e0, e3, e4, hp, hd]
    refine call_num (l1Below_con (n := 3) k2 hn (by omega) _) fun y i3 h3 c3 _ y0 y1 k3 => ?_
    by_cases hy : y = 0
    · simp [e0, e3, e4, hp, hd, hy]
      refine call_text (l37Id_con k3 hn _) fun w1 i4 h4 c4 _ l1 k4 => ?_
      simp [e0, e3, e4, hp, hd, hy]
      refine call_num (l1Below_con (n := 2) k4 hn (by omega) _) fun z i5 h5 c5 _ z0 z1 k5 => ?_
      simp [e0, e3, e4, hp, hd, hy]
      refine call_text (l5Word_con k5 hn _) fun w2 i6 h6 c6 _ l2 k6 => ?_
      simp [e0, e3, e4, hp, hd, hy]
      refine call_num (l1Below_con (n := 30) k6 hn (by omega) _) fun u i7 h7 c7 _ u0 u1 k7 => ?_
      simp [e0, e3, e4, hp, hd, hy]
      refine call_new (spec_saveO (s := b) hbl _) (.cons (view_flat_at (fun o ho => List.mem_cons_of_mem _ (List.mem_append_right _ ho)) TSession.flat.cells) (Views.refl _ _)) fun r O c8 _ ⟨b', l, hr, hO, hx, hl⟩ _ _ => ?_
      subst hr; subst hO; subst hl
      refine ⟨.tup (b'.at_ ((J ++ b.wood 4 TSession.enc noInn).length + 1) 4 :: _), view_tup (.cons (view_at _ _ _ _) (Views.refl _ _)), free_tup (by simp [free_at, free_bool]) _, fun o ho => flat_free TSession.flat _ _ o ho _, ?_⟩
      simp [e0, e3, e4, hp, hd, hy]
      refine hN _ _ _ _ hjx (List.Sublist.refl _) ⟨by simp [upd, e0], by simp [upd, hdec], b', J ++ b.wood 4 TSession.enc noInn, i7, h7, by simp [upd], by simp, k7, ?_⟩
      rw [hx]
      have := save_small (id := w1) (data := w2) (who := IntKind.i64.wrap (1 + z)) (now := u) hb l1 l2
      exact ⟨by have := this.1; omega, this.2⟩
    · simp [e0, e3, e4, hp, hd, hy]
      refine call_text (l37Id_con k3 hn _) fun w1 i4 h4 c4 _ l1 k4 => ?_
      simp [e0, e3, e4, hp, hd, hy]
      refine call_num (l1Below_con (n := 3) k4 hn (by omega) _) fun z i5 h5 c5 _ z0 z1 k5 => ?_
      simp [e0, e3, e4, hp, hd, hy]
      refine call_num (l1Below_con (n := 30) k5 hn (by omega) _) fun u i7 h7 c7 _ u0 u1 k7 => ?_
      simp [e0, e3, e4, hp, hd, hy]
      refine call_new (spec_openO (s := b) (small_ok hb (by omega)) (by unfold mx; omega) hbl _) (.cons (view_flat_at (fun o ho => List.mem_cons_of_mem _ (List.mem_append_right _ ho)) TSession.flat.cells) (Views.refl _ _)) fun r O c8 _ ⟨b', l, hr, hO, hx, hl⟩ _ _ => ?_
      subst hr; subst hO; subst hl
      refine ⟨.tup (b'.at_ ((J ++ b.wood 4 TSession.enc noInn).length + 1) 4 :: _), view_tup (.cons (view_at _ _ _ _) (Views.refl _ _)), free_tup (by simp [free_at, free_str, free_int]) _, fun o ho => flat_free TSession.flat _ _ o ho _, ?_⟩
      simp [e0, e3, e4, hp, hd, hy]
      refine hN _ _ _ _ hjx (List.Sublist.refl _) ⟨by simp [upd, e0], by simp [upd, hdec], b', J ++ b.wood 4 TSession.enc noInn, i7, h7, by simp [upd], by simp, k7, ?_⟩
      rw [hx]
      exact open_small hb l1
end A
end Go.Proofs.Ytgiiipbpadgcgaa
