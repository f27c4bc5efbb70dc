/-
  What is said of the small language's statements holds of the model's code; a function's contract out of its text. No condition.
-/
import Derived.Test.YtfcimcoanlgldaaDraw4
namespace Go.Proofs.Ytfcimcoanlgldaa
namespace A
set_option linter.unusedVariables false
section
variable {P : Program} {G0 : Gh} {H0 : List AObj} {w0 : World} {n : Nat}

theorem ops_sound (hH0 : ∀ t, t ∈ tags H0 → t < G0.c) {ops : Array Oper} {Q : Post} : ∀ (l : List Oper) (m : List IOper), l.mapM (compOper P n ops) = some m → ∀ (e : Env) (H : List AObj) (c : Nat) (a : Act) (w : World),
    St G0 H0 w0 n e H c a w → opsW P m e H c (Q .normal) → wpList P ops (Lift G0 H0 w0 n Q) l a w := by
  intro l
  induction l with
  | nil =>
    intro m hm e H c a w hs hk
    simp at hm; subst hm
    exact wpList_nil ⟨e, H, c, hk, hs⟩
  | cons o l ih =>
    intro m hm e H c a w hs hk
    simp only [List.mapM_cons, Option.bind_eq_bind, Option.bind_eq_some_iff, Option.pure_def, Option.some.injEq] at hm
    obtain ⟨io, hio, m', hm', rfl⟩ := hm
    obtain ⟨c1, c2, c3, c4⟩ := compOper_spec hio
    obtain ⟨G, rfl, h1, h2, h3, I, x⟩ := hs
    have hw := wanted_of c2 h3
    have run : opW P io.op e H G.c (fun v H' c' => opsW P m' (put e io.dst v) H' c' (Q .normal)) → o.wp P a w (wpList P ops (Lift G0 H0 w0 n Q) l) (Lift G0 H0 w0 n Q) := fun k =>
      op_sound rfl c1 I h3 k fun v w' ⟨av, H', G', k', x', I', r⟩ => by
        rw [c3] at k'
        exact ih m' hm' _ _ _ _ _ (St.step h1 h2 h3 I x hH0 c4 x' I' r) k'
    have skip : opsW P m' (put e io.dst .und) H G.c (Q .normal) → wpList P ops (Lift G0 H0 w0 n Q) l (a.put o.dst undef) w := fun k => by
      rw [c3] at k
      exact ih m' hm' _ _ _ _ _ (St.step h1 h2 h3 I x hH0 c4 (Ext.refl _ _ _) I .und) k
    refine wpList_step fun K hK => ?_
    simp only [opsW] at hk
    cases hg : io.guard with
    | none =>
      rw [hg] at hk hw
      simp only [WantSpec] at hk hw
      rw [hw, if_pos rfl]
      exact Oper.wp_mono (fun a w h => hK a w h) (run hk)
    | some p =>
      obtain ⟨d, want⟩ := p
      rw [hg] at hk hw
      simp only [WantSpec] at hk hw
      cases hed : e d <;> rw [hed] at hk <;> simp only [guardW] at hk <;> first
        | exact hk.elim
        | skip
      · rename_i b
        rw [hw.1 b hed]
        by_cases hb : b = want
        · subst hb
          rw [beq_self_eq_true, if_pos rfl]
          exact Oper.wp_mono (fun a w h => hK a w h) (run (hk.1 rfl))
        · rw [if_neg (by simpa using hb)]
          exact hK _ _ (skip (hk.2 hb))
      · rw [hw.2 hed, if_neg (by simp)]
        exact hK _ _ (skip hk)

theorem min_exists (p : Nat → Prop) (h : ∃ n, p n) : ∃ n, p n ∧ ∀ m, p m → n ≤ m := by
  obtain ⟨n, hn⟩ := h
  induction n using Nat.strongRecOn with
  | _ n ih =>
    by_cases hlt : ∃ m, m < n ∧ p m
    · obtain ⟨m, hm, hp⟩ := hlt; exact ih m hm hp
    · exact ⟨n, hn, fun m hm => by
        rcases Nat.lt_or_ge m n with h | h
        · exact absurd ⟨m, h, hm⟩ hlt
        · exact h⟩

open Classical in
noncomputable def least (p : Nat → Prop) : Nat := if h : ∃ n, p n then Classical.choose (min_exists p h) else 0
theorem least_spec {p : Nat → Prop} (h : ∃ n, p n) : p (least p) := by unfold least; rw [dif_pos h]; exact (Classical.choose_spec (min_exists p h)).1
theorem least_le {p : Nat → Prop} {n : Nat} (h : p n) : least p ≤ n := by unfold least; rw [dif_pos ⟨n, h⟩]; exact (Classical.choose_spec (min_exists p ⟨n, h⟩)).2 n h

theorem St.drop {e : Env} {H H' : List AObj} {c : Nat} {a : Act} {w : World} (h : St G0 H0 w0 n e H c a w) (hs : H'.Sublist H) : St G0 H0 w0 n e H' c a w := by
  obtain ⟨G, h0, h1, h2, h3, I, x⟩ := h
  exact ⟨G, h0, h1, h2, h3, I.drop hs, x.drop hs⟩

theorem ir_sound (hH0 : ∀ t, t ∈ tags H0 → t < G0.c) : ∀ (code : Code) (ir : IR), comp P n code = some ir → ∀ (Q : Post) (e : Env) (H : List AObj) (c : Nat) (a : Act) (w : World),
    St G0 H0 w0 n e H c a w → irW P ir Q e H c → code.wp P (Lift G0 H0 w0 n Q) a w := by
  intro code
  induction code with
  | skip => intro ir h Q e H c a w hs hk; simp only [comp] at h; cases h; exact wp_skip ⟨e, H, c, hk, hs⟩
  | ret => intro ir h Q e H c a w hs hk; simp only [comp] at h; cases h; exact wp_ret ⟨e, H, c, hk, hs⟩
  | exit id => intro ir h Q e H c a w hs hk; simp only [comp] at h; cases h; exact wp_exit ⟨e, H, c, hk, hs⟩
  | region id ops draw =>
    intro ir h Q e H c a w hs hk
    cases draw with
    | true =>
      simp only [comp] at h
      split at h
      · rename_i hc
        simp only [Bool.and_eq_true] at hc
        exact draw_comp hH0 h hc.1.2 hc.1.1 hs hk
      · cases h
    | false =>
      simp only [comp, Option.bind_eq_bind, Option.bind_eq_some_iff, Option.some.injEq] at h
      obtain ⟨m, hm, rfl⟩ := h
      exact wp_region_list (ops_sound hH0 ops.toList m hm e H c a w hs hk)
  | seq x y ihx ihy =>
    intro ir h Q e H c a w hs hk
    simp only [comp, Option.bind_eq_bind, Option.bind_eq_some_iff, Option.some.injEq] at h
    obtain ⟨ix, hx, iy, hy, rfl⟩ := h
    refine wp_seq (Code.wp_mono (fun ex a' w' hq => ?_) (ihx ix hx (thenQ (irW P iy Q) Q) e H c a w hs hk))
    obtain ⟨e', H', c', q, hs'⟩ := hq
    cases ex <;> first
      | exact ihy iy hy Q e' H' c' a' w' hs' q
      | exact ⟨e', H', c', q, hs'⟩
  | cond x a b iha ihb =>
    intro ir h Q e H c ac w hs hk
    simp only [comp, Option.bind_eq_bind, Option.bind_eq_some_iff, Option.some.injEq] at h
    obtain ⟨u, hu, ia, ha, ib, hb, rfl⟩ := h
    simp only [irW] at hk
    obtain ⟨G, rfl, h1, h2, h3, I, x'⟩ := hs
    have r := opd_rep h3 hu
    generalize ev e u = au at hk r
    generalize hv : ac.eval x = v at r
    cases r <;> simp only [condW] at hk <;> first
      | exact hk.elim
      | skip
    exact wp_cond_split hv (fun ht => iha ia ha Q e H G.c ac w ⟨G, rfl, h1, h2, h3, I, x'⟩ (hk.1 ht)) (fun ht => ihb ib hb Q e H G.c ac w ⟨G, rfl, h1, h2, h3, I, x'⟩ (hk.2 ht))
  | block id b ihb =>
    intro ir h Q e H c a w hs hk
    simp only [comp, Option.bind_eq_bind, Option.bind_eq_some_iff, Option.some.injEq] at h
    obtain ⟨ib, hb, rfl⟩ := h
    refine wp_block (Code.wp_mono (fun ex a' w' hq => ?_) (ihb ib hb (blockQ id Q) e H c a w hs hk))
    obtain ⟨e', H', c', q, hs'⟩ := hq
    cases ex <;> first
      | exact ⟨e', H', c', q, hs'⟩
      | (simp only [blockQ] at q
         simp only [Exit.inBlock]
         split
         · rename_i hid; rw [if_pos hid] at q; exact ⟨e', H', c', q, hs'⟩
         · rename_i hid; rw [if_neg hid] at q; exact ⟨e', H', c', q, hs'⟩)
  | loop b ihb =>
    intro ir h Q e H c a w hs hk
    simp only [comp, Option.bind_eq_bind, Option.bind_eq_some_iff, Option.some.injEq] at h
    obtain ⟨ib, hb, rfl⟩ := h
    obtain ⟨I, μ, ⟨Hs, hsub, hI⟩, hround⟩ := hk
    refine wp_loop (fun a w => ∃ e H c, I e H c ∧ St G0 H0 w0 n e H c a w) (fun a w => least fun k => ∃ e H c, I e H c ∧ St G0 H0 w0 n e H c a w ∧ μ e H c = k) ⟨e, Hs, c, hI, hs.drop hsub⟩ fun a w hIa => ?_
    obtain ⟨e1, H1, c1, hi1, hs1⟩ := hIa
    obtain ⟨e2, H2, c2, hi2, hs2, hμ⟩ := least_spec (p := fun k => ∃ e H c, I e H c ∧ St G0 H0 w0 n e H c a w ∧ μ e H c = k) ⟨_, e1, H1, c1, hi1, hs1, rfl⟩
    refine Code.wp_mono (fun ex a' w' hq => ?_) (ihb ib hb _ e2 H2 c2 a w hs2 (hround e2 H2 c2 hi2))
    obtain ⟨e', H', c', q, hs'⟩ := hq
    cases ex <;> first
      | exact ⟨e', H', c', q, hs'⟩
      | (obtain ⟨H'', hsub', hi', hlt⟩ := q
         refine ⟨⟨e', H'', c', hi', hs'.drop hsub'⟩, ?_⟩
         refine Nat.lt_of_le_of_lt (least_le (p := fun k => ∃ e H c, I e H c ∧ St G0 H0 w0 n e H c a' w' ∧ μ e H c = k) ⟨e', H'', c', hi', hs'.drop hsub', rfl⟩) ?_
         rw [← hμ]; exact hlt)
  | rangeFunc f ps as b iha ihb => intro ir h; simp [comp] at h
  | scope b ihb => intro ir h; simp [comp] at h
  | label l => intro ir h; simp [comp] at h
  | goto l => intro ir h; simp [comp] at h
  | refuse why => intro ir h; simp [comp] at h
end
end A
end Go.Proofs.Ytfcimcoanlgldaa
