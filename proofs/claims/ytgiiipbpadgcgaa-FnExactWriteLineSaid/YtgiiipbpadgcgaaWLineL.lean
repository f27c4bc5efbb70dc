/-
  The law of WriteLine answers true. No condition.
-/
import Derived.Test.YtgiiipbpadgcgaaWLine
namespace Go.Proofs.Ytgiiipbpadgcgaa
namespace A
set_option linter.unusedVariables false
set_option linter.unusedSimpArgs false
set_option maxRecDepth 100000

theorem wrF {s : SL TLine} {at_ v : Int} {ws : SL Int} (b : SL TLine) (l : List AV) (h : WR s at_ v ws b l) : ∀ a, a ∈ l → Free a := fun a ha => by
  rw [h.1] at ha; simp at ha; subst ha; exact free_bool _
theorem spec_wr {s : SL TLine} {at_ v : Int} {ws : SL Int} (hn : s.list.length ≤ 1048576) (hz : ∀ x, x ∈ s.list → x.Words.list.length ≤ 1048576) (hw : ws.list.length ≤ 1048576) :
    Tr Try.prog 50 [s.av 4 TLine.enc, .int .i64 at_, .int .i64 v, ws.av 1 encI] fun _ r => ∃ (b : SL TLine) (l : List AV), r = .tup (b.av 4 TLine.enc :: l) ∧ WR s at_ v ws b l := line_tr2 wrF (spec_wrO hn hz hw)
theorem impl_wr {s : SL TLine} {at_ v : Int} {ws : SL Int} (hn : s.list.length ≤ 1048576) (hz : ∀ x, x ∈ s.list → x.Words.list.length ≤ 1048576) (hw : ws.list.length ≤ 1048576) :
    Tr Try.prog 52 [s.av 4 TLine.enc, .int .i64 at_, .int .i64 v, ws.av 1 encI] fun _ r => ∃ (b : SL TLine) (l : List AV), r = .tup (b.av 4 TLine.enc :: l) ∧ WR s at_ v ws b l := line_tr2 wrF (impl_wrO hn hz hw)

theorem mark_midr {α : Type} {P : Program} {f w : Nat} {encO : α → List AV} {inn : α → List AObj} {mk : Int → α → α} {cnt : α → Nat} {K : AV → List AObj → Nat → Prop} {A C : List AObj} {s : SL α} {k n : Int} {c : Nat}
    (hf : Con P f [s.ref w, .int .i64 k] (s.wood w encO inn) c fun r H' _ => r = .int .i64 n ∧ H' = (s.marks mk cnt k).wood w encO inn)
    (hi : ∀ k x, tags (inn (mk k x)) = tags (inn x)) (hO : ∀ x a, a ∈ encO x → Free a) (hI : ∀ x o, o ∈ inn x → ∀ T, AvRows T o) (kk : ∀ c', c ≤ c' → K (.int .i64 n) (A ++ ((s.marks mk cnt k).wood w encO inn ++ C)) c') :
    CallW P f [s.ref w, .int .i64 k] (A ++ (s.wood w encO inn ++ C)) c K := by
  rw [← List.append_assoc]
  exact mark_mid hf hi hO hI fun c' h => by rw [List.append_assoc]; exact kk c' h

theorem szL_set {α : Type} (f : α → Nat) : ∀ (l : List α) (i : Nat) (z : α), szL f (l.set i z) ≤ szL f l + f z := by
  intro l
  induction l with
  | nil => intro i z; simp [szL]
  | cons x l ih =>
    intro i z
    cases i with
    | zero => simp [szL]; omega
    | succ i => have := ih i z; simp [szL] at this ⊢; omega

theorem wr_bounds {l : List TLine} {at_ v : Int} {ws : SL Int} (h : l.length + szL TLine.sz l ≤ 1048576) (hw : ws.list.length ≤ 1048576) :
    ∀ b : SL TLine, b.list.map TLine.con = (wr l at_ v ws).map TLine.con → szL cLine b.list ≤ 8388608 ∧ (∀ x, x ∈ b.list → x.Words.list.length ≤ 1048576) ∧ szLineS b ≤ 1099511627776 := fun b hb => by
  have key : ∀ l : List TLine, szL cLine l ≤ 3 * l.length + szL TLine.sz l := fun l => by
    induction l with
    | nil => simp [szL]
    | cons x l ih =>
      have e : x.sz = x.Words.list.length := rfl
      simp only [szL, List.map_cons, List.sum_cons, List.length_cons, cLine, e] at ih ⊢; omega
  have hz : szLineS b = szLineS (.mk 0 (wr l at_ v ws)) := szLineS_con hb
  have hr : (wr l at_ v ws).length + szL TLine.sz (wr l at_ v ws) ≤ 2097152 ∧ ∀ x, x ∈ wr l at_ v ws → x.Words.list.length ≤ 1048576 := by
    have h0 : ∀ x, x ∈ l → x.Words.list.length ≤ 1048576 := (szLine_bounds h).2.1
    unfold wr
    split
    · split
      · rename_i y hy
        refine ⟨?_, fun x hx => ?_⟩
        · have := szL_set TLine.sz l at_.toNat (wrOne v ws y)
          have e : (wrOne v ws y).sz = ws.list.length := rfl
          simp only [List.length_set]; omega
        · rcases List.mem_or_eq_of_mem_set hx with hx | rfl
          · exact h0 x hx
          · exact hw
      · exact ⟨by omega, h0⟩
    · exact ⟨by omega, h0⟩
  unfold szLineS at hz
  simp only [SL.list_mk] at hz
  refine ⟨by have := key b.list; omega, fun x hx => ?_, by unfold szLineS; omega⟩
  have : x.con ∈ (wr l at_ v ws).map TLine.con := hb ▸ List.mem_map_of_mem hx
  obtain ⟨y, hy, hyx⟩ := List.mem_map.1 this
  have e : y.con.Words.list = x.con.Words.list := by rw [hyx]
  have e' : y.Words.list = x.Words.list := e
  rw [← e']; exact hr.2 y hy

theorem law_wr {s : SL TLine} {at_ v : Int} {ws : SL Int} (hs : okLineS s) (hw1 : IOk .i64 at_) (hw2 : IOk .i64 v) (hws : okIntS ws) (c : Nat) : Con Try.prog 11 [s.av 4 TLine.enc, .int .i64 at_, .int .i64 v, ws.av 1 encI] [] c fun r H' _ => r = .bool true ∧ H' = [] := by
  refine con_of c11 (by simp [F11]) ?_
  unfold F11
  by_cases hwl : (1048576 : Int) < ws.list.length
  · simp [hwl]
    exact fin_plain ⟨rfl, rfl⟩
  simp [hwl]
  have hwn : ws.list.length ≤ 1048576 := by omega
  refine call_fn0 (szLineS_fn hs ⟨by omega, by omega⟩) .int fun _ _ => ?_
  simp
  refine ⟨fun _ => fin_plain ⟨rfl, rfl⟩, fun h => ?_⟩
  have hz : szLineS s ≤ 1048576 := by have := (szOf_ge h).2; omega
  have hz0 : s.list.length + szL TLine.sz s.list ≤ 1048576 := hz
  have hb : ∀ b : SL TLine, b.list.map TLine.con = s.list.map TLine.con → szL cLine b.list ≤ 8388608 ∧ (∀ x, x ∈ b.list → x.Words.list.length ≤ 1048576) ∧ b.list.length ≤ 1048576 := fun b hb => szLine_bounds (by have := szLineS_con hb; unfold szLineS at this hz; omega)
  have hsz : ∀ b : SL TLine, b.list.map TLine.con = s.list.map TLine.con → szLineS b ≤ 1099511627776 := fun b hb => by have := szLineS_con hb; omega
  have hr := wr_bounds (at_ := at_) (v := v) hz0 hwn
  have conv : ∀ (b : SL TLine) (u : SL Int) (g : SL TLine) (l : List AV), b.list.map TLine.con = s.list.map TLine.con → u.list = ws.list → WR b at_ v u g l → l = [.bool (wrOk s.list at_ v ws.list.length)] ∧ g.list.map TLine.con = (wr s.list at_ v ws).map TLine.con := fun b u g l h1 h2 h3 => by
    have := wr_con (at_ := at_) (v := v) h1 h2
    exact ⟨by rw [h3.1, this.1], by rw [h3.2, this.2]⟩
  refine call_tree0 (toLineS_fn hz) fun r1 _ _ ⟨b1, e1, q1⟩ _ => ?_
  subst e1
  simp
  refine call_tree0 (toIntS_fn hwn) fun r1 _ _ ⟨t1, e1⟩ _ => ?_
  subst e1
  simp
  refine call_tree0 (spec_wr (ws := .mk t1 ws.list) (hb _ q1).2.2 (hb _ q1).2.1 hwn) fun r2 _ _ ⟨w, lw, e2, Qw⟩ _ => ?_
  subst e2
  obtain ⟨hlw, q2⟩ := conv _ (.mk t1 ws.list) _ _ q1 rfl Qw
  subst hlw
  simp
  refine call_new (toLineSO hz _) (Views.refl _ _) fun r3 O c3 hc3 ⟨x, e3, hO, q3⟩ _ _ => ?_
  subst e3; subst hO
  refine ⟨_, .refl _, free_ref _ _ _, fun o ho => free_wood TLine.freeO TLine.freeI _ o ho _, ?_⟩
  simp
  refine call_new (toPO_fn (v := fun n => .int .i64 n) (z := .int .i64 0) (bytes := 8) c51 (fun _ _ => by simp) (by omega) (by omega) _) (Views.refl _ _) fun r O c4 hc4 ⟨u, hr4, hO, hu⟩ _ _ => ?_
  subst hr4; subst hO
  refine ⟨_, .refl _, free_ref _ _ _, fun o ho => flat_free encI_flat _ _ o ho _, ?_⟩
  simp
  have hul : u.list.length ≤ 1048576 := by rw [hu]; exact hwn
  refine call_new (impl_wrO (s := x) (ws := u) (hb _ q3).2.2 (hb _ q3).2.1 (by rw [hu]; exact hwn) _) (.cons (view_line (fun _ h => List.mem_append_left _ h)) (.cons (.refl _) (.cons (.refl _) (.cons (view_flat (fun _ h => List.mem_append_right _ h) encI_flat.cells) .nil)))) fun r4 O c5 hc5 ⟨g, lg, e4, hO, Qg⟩ _ _ => ?_
  subst e4; subst hO
  obtain ⟨hlg, q4⟩ := conv _ _ _ _ q3 hu Qg
  subst hlg
  refine ⟨_, .refl _, free_tup (by simp [free_ref, free_bool, free_int, free_str]) _, fun o ho => free_wood TLine.freeO TLine.freeI _ o ho _, ?_⟩
  simp
  refine call_fn (eqLineS_fn (s := g) (t := w) (hr _ q4).2.2 (by rw [q4, q2])) (.cons (view_line (fun _ h => List.mem_append_right _ (List.mem_append_right _ h))) (.cons (.refl _) .nil)) .bool fun _ _ => ?_
  simp
  refine call_tree0 (toLineS_fn hz) fun r5 _ _ ⟨b5, e5, q5⟩ _ => ?_
  subst e5
  simp
  refine call_fn (eqLineS_fn (s := x) (t := b5) (hsz _ q3) (by rw [q3, q5])) (.cons (view_line (fun _ h => List.mem_append_left _ h)) (.cons (.refl _) .nil)) .bool fun _ _ => ?_
  simp
  refine call_tree0 (toIntS_fn hwn) fun r1 _ _ ⟨t2, e1⟩ _ => ?_
  subst e1
  simp
  refine call_fn (eqIntS_fn (s := u) (t := .mk t2 ws.list) (by unfold szIntS; omega) hu) (.cons (view_flat (fun _ h => List.mem_append_right _ (List.mem_append_left _ h)) encI_flat.cells) (.cons (.refl _) .nil)) .bool fun _ _ => ?_
  simp
  refine line_first (hb _ q3).1 (hb _ q3).2.1 fun _ _ => ?_
  have hc0 := (hb _ q3).1
  simp
  refine mark_midr (A := (x.marks mkLine cLine 1).wood 4 TLine.encO TLine.inn) (markI_con c37 hul (k := 1 + szL cLine x.list) ⟨by omega, by omega⟩ _) (fun _ _ => rfl) (fun x a ha => (encI_flat x a ha).2) (fun x o ho => by cases ho) fun _ _ => ?_
  have hk1 : ¬ ((1 : Int) + (szL cLine x.list : Int) + (u.list.length : Int) < 0) := by omega
  have hk2 : ¬ ((1 : Int) + (szL cLine g.list : Int) < 0) := by omega
  simp [hk1]
  refine call_fn (eqLineS_fn (s := g) (t := w) (hr _ q4).2.2 (by rw [q4, q2])) (.cons (view_line (fun _ h => List.mem_append_right _ (List.mem_append_right _ h))) (.cons (.refl _) .nil)) .bool fun _ _ => ?_
  simp [hk1]
  rw [← List.append_assoc]
  refine line_last (hr _ q4).1 (hr _ q4).2.1 fun _ _ => ?_
  simp [hk1, hk2]
  refine call_fn (heldLine_fn (s := g) (hr _ q4).1 (hr _ q4).2.1 ⟨by omega, by omega⟩) (.cons (view_lmarks (fun _ h => List.mem_append_right _ (List.mem_append_right _ h))) (.cons (.refl _) .nil)) .int fun _ _ => ?_
  simp [hk1, hk2]
  refine call_tree0 (toLineS_fn hz) fun r6 _ _ ⟨b6, e6, q6⟩ _ => ?_
  subst e6
  simp
  refine call_tree0 (toIntS_fn hwn) fun r1 _ _ ⟨t3, e1⟩ _ => ?_
  subst e1
  simp
  refine call_tree0 (impl_wr (ws := .mk t3 ws.list) (hb _ q6).2.2 (hb _ q6).2.1 hwn) fun r7 _ _ ⟨y, ly, e7, Qy⟩ _ => ?_
  subst e7
  obtain ⟨hly, q7⟩ := conv _ (.mk t3 ws.list) _ _ q6 rfl Qy
  subst hly
  simp
  refine call_fn0 (eqLineS_fn (s := y) (t := w) (hr _ q7).2.2 (by rw [q7, q2])) .bool fun _ _ => ?_
  simp
  refine call_fn (heldLine_fn (s := g) (hr _ q4).1 (hr _ q4).2.1 ⟨by omega, by omega⟩) (.cons (view_lmarks (fun _ h => List.mem_append_right _ (List.mem_append_right _ h))) (.cons (.refl _) .nil)) .int fun _ _ => ?_
  simp [hk2]
  exact fin_plain ⟨rfl, rfl⟩
end A
end Go.Proofs.Ytgiiipbpadgcgaa
