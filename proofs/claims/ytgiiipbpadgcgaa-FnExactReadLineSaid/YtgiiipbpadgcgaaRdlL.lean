/-
  The law of ReadLine answers true. No condition.
-/
import Derived.Test.YtgiiipbpadgcgaaRdl
namespace Go.Proofs.Ytgiiipbpadgcgaa
namespace A
set_option linter.unusedVariables false
set_option linter.unusedSimpArgs false
set_option maxRecDepth 100000

theorem line_con_list {l m : List TLine} (h : l.map TLine.con = m.map TLine.con) : areLines l = areLines m ∧ l.length = m.length ∧ (∀ k : Nat, (l[k]?).map TLine.con = (m[k]?).map TLine.con) := by
  refine ⟨?_, by simpa using congrArg List.length h, fun k => ?_⟩
  · have e : ∀ l : List TLine, areLines l = areLines (l.map TLine.con) := fun l => by
      unfold areLines
      rw [List.all_map, List.length_map]
      rfl
    rw [e, e m, h]
  · have := congrArg (fun x => x[k]?) h
    simpa using this
theorem readsL_con {at_ ver : Int} {l m : List TLine} (h : l.map TLine.con = m.map TLine.con) : readsL at_ ver l = readsL at_ ver m ∧ readL at_ ver l = readL at_ ver m := by
  obtain ⟨h1, h2, h3⟩ := line_con_list h
  have h3 := h3 at_.toNat
  have key : readsL at_ ver l = readsL at_ ver m := by
    unfold readsL
    rw [h1, h2]
    cases hl : l[at_.toNat]? <;> cases hm : m[at_.toNat]? <;> rw [hl, hm] at h3 <;> simp at h3 ⊢
    rename_i x y
    have e1 : x.Seq = y.Seq := (congrArg TLine.Seq h3 : x.con.Seq = y.con.Seq)
    have e2 : x.Version = y.Version := (congrArg TLine.Version h3 : x.con.Version = y.con.Version)
    rw [e1, e2]
  refine ⟨key, ?_⟩
  unfold readL
  rw [key]
  cases hl : l[at_.toNat]? <;> cases hm : m[at_.toNat]? <;> rw [hl, hm] at h3 <;> simp at h3 ⊢
  rename_i x y
  have e1 : x.Words.list = y.Words.list := (congrArg (fun z : TLine => z.Words.list) h3 : x.con.Words.list = y.con.Words.list)
  rw [e1]
theorem readF {at_ ver : Int} {l : List TLine} (x : SL Int) (r : List AV) (h : ReadQ at_ ver l x r) : ∀ a, a ∈ r → Free a := fun a ha => by
  rw [h.2] at ha; simp at ha; subst ha; exact free_bool _
theorem spec_read {s : SL TLine} {at_ ver : Int} (hn : s.list.length ≤ 1048576) (hz : ∀ x, x ∈ s.list → x.Words.list.length ≤ 1048576) : Tr Try.prog 31 [s.av 4 TLine.enc, .int .i64 at_, .int .i64 ver] fun _ r => ∃ (x : SL Int) (l : List AV), r = .tup (x.av 1 encI :: l) ∧ ReadQ at_ ver s.list x l :=
  flat_tr2 encI_flat readF (spec_readO hn hz)
theorem impl_read {s : SL TLine} {at_ ver : Int} (hn : s.list.length ≤ 1048576) (hz : ∀ x, x ∈ s.list → x.Words.list.length ≤ 1048576) : Tr Try.prog 33 [s.av 4 TLine.enc, .int .i64 at_, .int .i64 ver] fun _ r => ∃ (x : SL Int) (l : List AV), r = .tup (x.av 1 encI :: l) ∧ ReadQ at_ ver s.list x l :=
  flat_tr2 encI_flat readF (impl_readO hn hz)

theorem szLine_bounds {l : List TLine} (h : l.length + szL TLine.sz l ≤ 1048576) : szL cLine l ≤ 8388608 ∧ (∀ x, x ∈ l → x.Words.list.length ≤ 1048576) ∧ l.length ≤ 1048576 := by
  have key : ∀ l : List TLine, szL cLine l ≤ 3 * l.length + szL TLine.sz l := fun l => by
    induction l with
    | nil => simp [szL]
    | cons x l ih =>
      have e : x.sz = x.Words.list.length := rfl
      simp only [szL, List.map_cons, List.sum_cons, List.length_cons, cLine, e] at ih ⊢; omega
  refine ⟨by have := key l; omega, fun x hx => ?_, by omega⟩
  have := szL_mem (sz := TLine.sz) hx
  have e : x.sz = x.Words.list.length := rfl
  omega

theorem readL_len {at_ ver : Int} {l : List TLine} (hw : ∀ x, x ∈ l → x.Words.list.length ≤ 1048576) : (readL at_ ver l).length ≤ 1048576 := by
  unfold readL
  split
  · split
    · rename_i x hx; exact hw x (List.mem_of_getElem? hx)
    · simp
  · simp

theorem law_read {s : SL TLine} {at_ ver : Int} (hs : okLineS s) (hw1 : IOk .i64 at_) (hw2 : IOk .i64 ver) (c : Nat) : Con Try.prog 6 [s.av 4 TLine.enc, .int .i64 at_, .int .i64 ver] [] c fun r H' _ => r = .bool true ∧ H' = [] := by
  refine con_of c6 (by simp [F6]) ?_
  unfold F6
  simp
  refine call_fn0 (szLineS_fn hs ⟨by omega, by omega⟩) .int fun _ _ => ?_
  simp
  refine ⟨fun _ => fin_plain ⟨rfl, rfl⟩, fun h => ?_⟩
  have hz : szLineS s ≤ 1048576 := by have := (szOf_ge h).2; omega
  have hb : ∀ b : SL TLine, b.list.map TLine.con = s.list.map TLine.con → szL cLine b.list ≤ 8388608 ∧ (∀ x, x ∈ b.list → x.Words.list.length ≤ 1048576) ∧ b.list.length ≤ 1048576 := fun b hb => szLine_bounds (by have := szLineS_con hb; unfold szLineS at this hz; omega)
  have hsz : ∀ b : SL TLine, b.list.map TLine.con = s.list.map TLine.con → szLineS b ≤ 1099511627776 := fun b hb => by have := szLineS_con hb; omega
  have hrd : ∀ b : SL TLine, b.list.map TLine.con = s.list.map TLine.con → readsL at_ ver b.list = readsL at_ ver s.list ∧ readL at_ ver b.list = readL at_ ver s.list := fun b hb => readsL_con hb
  have hrl : (readL at_ ver s.list).length ≤ 1048576 := readL_len (hb s rfl).2.1
  have hsi : ∀ b : SL Int, b.list = readL at_ ver s.list → szIntS b ≤ 1099511627776 := fun b hb => by unfold szIntS; rw [hb]; omega
  refine call_tree0 (toLineS_fn hz) fun r1 _ _ ⟨b1, e1, q1⟩ _ => ?_
  subst e1
  simp
  refine call_tree0 (spec_read (hb _ q1).2.2 (hb _ q1).2.1) fun r2 _ _ ⟨w, lw, e2, Qw⟩ _ => ?_
  subst e2
  obtain ⟨q2, hlw⟩ := Qw
  subst hlw
  rw [(hrd _ q1).2] at q2
  simp [(hrd _ q1).1]
  refine call_new (toLineSO hz _) (Views.refl _ _) fun r3 O c3 hc3 ⟨x, e3, hO, q3⟩ _ _ => ?_
  subst e3; subst hO
  refine ⟨_, .refl _, free_ref _ _ _, fun o ho => free_wood TLine.freeO TLine.freeI _ o ho _, ?_⟩
  simp
  refine call_new (impl_readO (s := x) (hb _ q3).2.2 (hb _ q3).2.1 _) (.cons (view_line (fun _ h => h)) (Views.refl _ _)) fun r4 O c4 hc4 ⟨g, lg, e4, hO, Qg⟩ _ _ => ?_
  subst e4; subst hO
  obtain ⟨q4, hlg⟩ := Qg
  subst hlg
  rw [(hrd _ q3).2] at q4
  refine ⟨_, .refl _, free_tup (by simp [free_ref, free_bool, free_int, free_str]) _, fun o ho => flat_free encI_flat _ _ o ho _, ?_⟩
  simp [(hrd _ q3).1]
  refine call_fn (eqIntS_fn (s := g) (t := w) (hsi _ q4) (by rw [q4, q2])) (.cons (view_flat (fun _ h => List.mem_append_right _ h) encI_flat.cells) (.cons (.refl _) .nil)) .bool fun _ _ => ?_
  simp
  refine call_tree0 (toLineS_fn hz) fun r5 _ _ ⟨b5, e5, q5⟩ _ => ?_
  subst e5
  simp
  refine call_fn (eqLineS_fn (s := x) (t := b5) (hsz _ q3) (by rw [q3, q5])) (.cons (view_line (fun _ h => List.mem_append_left _ h)) (.cons (.refl _) .nil)) .bool fun _ _ => ?_
  simp
  refine line_first (hb _ q3).1 (hb _ q3).2.1 fun _ _ => ?_
  have hk1 : ¬ ((1 : Int) + (szL cLine x.list : Int) < 0) := by omega
  have hg : g.list.length ≤ 1048576 := by rw [q4]; exact hrl
  have hk2 : ¬ ((1 : Int) + (g.list.length : Int) < 0) := by omega
  simp [hk1]
  refine call_fn (eqIntS_fn (s := g) (t := w) (hsi _ q4) (by rw [q4, q2])) (.cons (view_flat (fun _ h => List.mem_append_right _ h) encI_flat.cells) (.cons (.refl _) .nil)) .bool fun _ _ => ?_
  simp [hk1]
  refine mark_last encI_flat (markI_con c37 hg ⟨by omega, by omega⟩ _) fun _ _ => ?_
  simp [hk1]
  refine call_fn (heldI_fn c38 (s := g) hg ⟨by omega, by omega⟩) (.cons (view_marks (fun _ h => List.mem_append_right _ h) encI_flat.cells) (.cons (.refl _) .nil)) .int fun _ _ => ?_
  simp [hk2]
  refine call_tree0 (toLineS_fn hz) fun r6 _ _ ⟨b6, e6, q6⟩ _ => ?_
  subst e6
  simp
  refine call_tree0 (impl_read (s := b6) (hb _ q6).2.2 (hb _ q6).2.1) fun r7 _ _ ⟨y, ly, e7, Qy⟩ _ => ?_
  subst e7
  obtain ⟨q7, hly⟩ := Qy
  subst hly
  rw [(hrd _ q6).2] at q7
  simp [(hrd _ q6).1]
  refine call_fn0 (eqIntS_fn (s := y) (t := w) (hsi _ q7) (by rw [q7, q2])) .bool fun _ _ => ?_
  simp
  refine call_fn (heldI_fn c38 (s := g) hg ⟨by omega, by omega⟩) (.cons (view_marks (fun _ h => List.mem_append_right _ h) encI_flat.cells) (.cons (.refl _) .nil)) .int fun _ _ => ?_
  simp [hk2]
  exact fin_plain ⟨rfl, rfl⟩
end A
end Go.Proofs.Ytgiiipbpadgcgaa
