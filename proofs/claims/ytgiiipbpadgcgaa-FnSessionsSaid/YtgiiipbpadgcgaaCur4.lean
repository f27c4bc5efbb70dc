/-
  What DrawSweepSessions hands back. No condition.
-/
import Derived.Test.YtgiiipbpadgcgaaCur3
namespace Go.Proofs.Ytgiiipbpadgcgaa
namespace A
set_option linter.unusedVariables false
set_option linter.unusedSimpArgs false
set_option maxRecDepth 100000

theorem call_int_at {t tl i idx : Nat} {h : Int} {s : SL Int} (l : List Int) {C : List AObj} {c : Nat} {K : AV → List AObj → Nat → Prop} (hi : i ≤ s.list.length) (hn : s.list.length ≤ 1048576) (h0 : 0 < l.length) (h1 : l.length ≤ 256)
    (k : ∀ (x : Int) (i' : Nat) (h' : Int) (c' : Nat), c ≤ c' → x ∈ l → i' ≤ s.list.length → K (.int .i64 x) (cur t s i' h' :: (C ++ [⟨false, tl, 1, l.map encI⟩])) c') :
    CallW Try.prog 94 [.ptr 0 t 3 0 0, .ref idx tl 1 l.length] (cur t s i h :: (C ++ [⟨false, tl, 1, l.map encI⟩])) c K := fun hnd hlt => by
  have ht : tags (cur t s i h :: (C ++ [⟨false, tl, 1, l.map encI⟩])) = t :: (tags C ++ [tl]) := by simp [tags, cur]
  rw [ht] at hnd
  refine call_part (H1 := [cur t s i h, ⟨false, tl, 1, l.map encI⟩]) (S := []) ((List.sublist_append_right _ _).cons_cons _) (by simp) (by simp [tags]) (.cons (.refl _) (.cons .name .nil)) (l1Int_con hi hn h0 h1 c) (fun r H1' c' hc q _ _ => ?_) (by rw [ht]; exact hnd) hlt
  obtain ⟨x, i', h', rfl, hx, k1, rfl⟩ := q
  refine ⟨cur t s i' h' :: (C ++ [⟨false, tl, 1, l.map encI⟩]), _, fun o ho => ?_, ?_, .refl _, .int, fun o _ ho => ?_, k x i' h' c' hc hx k1⟩
  · rcases List.mem_cons.1 ho with rfl | ho
    · exact .inl (List.mem_cons_self ..)
    · rcases List.mem_append.1 ho with hC | ho
      · refine .inr ⟨List.mem_cons_of_mem _ (List.mem_append_left _ hC), fun hm => ?_⟩
        have hm' : o.tag = t ∨ o.tag = tl := by simpa [tags, cur] using hm
        have hot := mem_tags hC
        rw [List.nodup_cons, List.nodup_append] at hnd
        rcases hm' with hm' | hm'
        · exact hnd.1 (List.mem_append_left _ (hm' ▸ hot))
        · exact hnd.2.2.2 _ hot tl (by simp) hm'
      · exact .inl (List.mem_cons_of_mem _ ho)
  · have : tags (cur t s i' h' :: (C ++ [⟨false, tl, 1, l.map encI⟩])) = t :: (tags C ++ [tl]) := by simp [tags, cur]
    rw [this]; exact hnd
  · simp at ho
    rcases ho with rfl | rfl
    · exact cur_rows t s i' h'
    · exact avrows_int tl l

def DrawQ (b : SL TSession) (l : List AV) : Prop := smallS 16 b.list ∧ ∃ now age : Int, l = [.int .i64 now, .int .i64 age] ∧ now ∈ ([0, 10, 30, 50, -1] : List Int) ∧ age ∈ ([0, 5, 20, -1, 1000000000001] : List Int)
theorem drawSweepO {s : SL Int} (hn : s.list.length ≤ 1048576) (c : Nat) : Con Try.prog 42 [s.av 1 encU] [] c fun r O _ => ∃ (b : SL TSession) (l : List AV), r = .tup (b.ref 4 :: l) ∧ O = b.wood 4 TSession.enc noInn ∧ DrawQ b l := by
  refine con_of c42 (by simp [F42]) ?_
  unfold F42
  simp
  refine call_con (l1New_con hn _) fun r O c1 _ ⟨t, h, hr, hO⟩ _ _ => ?_
  subst hr; subst hO
  refine ⟨.ptr, fun o ho => by simp at ho; subst ho; exact cur_rows t s 0 h, ?_⟩
  simp
  refine call_con (l37Draw_con (by omega) hn _) fun r O c2 _ ⟨b, i, h, hr, hO, hi, hb⟩ _ _ => ?_
  subst hr; subst hO
  refine ⟨free_at _ _ _ _, fun o ho => ?_, ?_⟩
  · rcases List.mem_cons.1 ho with rfl | ho
    · exact cur_rows t s i h
    · exact flat_free TSession.flat _ _ o ho _
  simp [putA]
  refine call_int_at [0, 10, 30, 50, -1] (C := b.wood 4 TSession.enc noInn) hi hn (by decide) (by decide) fun x i1 h1 c3 _ hx k1 => ?_
  simp [putA]
  have e1 : ∀ o1 o2 : AObj, b.wood 4 TSession.enc noInn ++ [o1, o2] = (b.wood 4 TSession.enc noInn ++ [o1]) ++ [o2] := fun _ _ => by simp
  rw [e1]
  refine call_int_at [0, 5, 20, -1, 1000000000001] (C := b.wood 4 TSession.enc noInn ++ [_]) k1 hn (by decide) (by decide) fun y i2 h2 c4 _ hy k2 => ?_
  simp
  refine fin_sub (Hk := b.wood 4 TSession.enc noInn) ?_ (view_tup (.cons (view_at' _ _ _ _) (Views.refl _ _))) ⟨b, _, rfl, rfl, hb, x, y, rfl, hx, hy⟩
  exact (List.sublist_append_left _ _).cons _
theorem drawF (b : SL TSession) (l : List AV) (h : DrawQ b l) : ∀ a, a ∈ l → Free a := fun a ha => by
  obtain ⟨_, x, y, rfl, _, _⟩ := h
  simp at ha
  rcases ha with rfl | rfl
  · exact free_int _ _
  · exact free_int _ _
theorem drawSweep {s : SL Int} (hn : s.list.length ≤ 1048576) : Tr Try.prog 42 [s.av 1 encU] fun _ r => ∃ (b : SL TSession) (l : List AV), r = .tup (b.av 4 TSession.enc :: l) ∧ DrawQ b l := flat_tr2 TSession.flat drawF (drawSweepO hn)
end A
end Go.Proofs.Ytgiiipbpadgcgaa
