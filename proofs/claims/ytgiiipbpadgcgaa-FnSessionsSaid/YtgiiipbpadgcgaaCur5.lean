/-
  What DrawOpenSession hands back. No condition.
-/
import Derived.Test.YtgiiipbpadgcgaaCur4
namespace Go.Proofs.Ytgiiipbpadgcgaa
namespace A
set_option linter.unusedVariables false
set_option linter.unusedSimpArgs false
set_option maxRecDepth 100000

def DrawO (b : SL TSession) (l : List AV) : Prop := smallS 16 b.list ∧ ∃ (id : List UInt8) (who now : Int), l = [.str id, .int .i64 who, .int .i64 now] ∧ id.length ≤ 16 ∧ 0 ≤ who ∧ who ≤ 3 ∧ now ∈ ([0, 5, 40, -1] : List Int)
theorem drawOpenO {s : SL Int} (hn : s.list.length ≤ 1048576) (c : Nat) : Con Try.prog 56 [s.av 1 encU] [] c fun r O _ => ∃ (b : SL TSession) (l : List AV), r = .tup (b.ref 4 :: l) ∧ O = b.wood 4 TSession.enc noInn ∧ DrawO b l := by
  refine con_of c56 (by simp [F56]) ?_
  unfold F56
  simp
  refine call_con (l1New_con hn _) fun r O c1 _ ⟨t, h, hr, hO⟩ _ _ => ?_
  subst hr; subst hO
  refine ⟨.ptr, fun o ho => by simp at ho; subst ho; exact cur_rows t s 0 h, ?_⟩
  simp
  refine call_con (l37Draw_con (by omega) hn _) fun r O c2 _ ⟨b, i, h, hr, hO, hi, hb⟩ _ _ => ?_
  subst hr; subst hO
  refine ⟨free_at _ _ _ _, fun o ho => ?_, ?_⟩
  · rcases List.mem_cons.1 ho with rfl | ho
    · exact cur_rows t s i h
    · exact flat_free TSession.flat _ _ o ho _
  simp
  refine call_text (l37Id_con hi hn _) fun id i1 h1 c3 _ l1 k1 => ?_
  simp
  refine call_num (l1Below_con (n := 4) k1 hn (by omega) _) fun who i2 h2 c4 _ w0 w1 k2 => ?_
  rw [if_neg (by omega)] at w1
  simp [putA]
  refine call_int_at [0, 5, 40, -1] (C := b.wood 4 TSession.enc noInn) k2 hn (by decide) (by decide) fun y i3 h3 c5 _ hy k3 => ?_
  simp
  refine fin_sub (Hk := b.wood 4 TSession.enc noInn) ?_ (view_tup (.cons (view_at' _ _ _ _) (Views.refl _ _))) ⟨b, _, rfl, rfl, hb, id, who, y, rfl, l1, w0, by omega, hy⟩
  exact (List.sublist_append_left _ _).cons _
theorem drawOF (b : SL TSession) (l : List AV) (h : DrawO b l) : ∀ a, a ∈ l → Free a := fun a ha => by
  obtain ⟨_, x, y, z, rfl, _⟩ := h
  simp at ha
  rcases ha with rfl | rfl | rfl
  · exact free_str _
  · exact free_int _ _
  · exact free_int _ _
theorem drawOpen {s : SL Int} (hn : s.list.length ≤ 1048576) : Tr Try.prog 56 [s.av 1 encU] fun _ r => ∃ (b : SL TSession) (l : List AV), r = .tup (b.av 4 TSession.enc :: l) ∧ DrawO b l := flat_tr2 TSession.flat drawOF (drawOpenO hn)

end A
end Go.Proofs.Ytgiiipbpadgcgaa
