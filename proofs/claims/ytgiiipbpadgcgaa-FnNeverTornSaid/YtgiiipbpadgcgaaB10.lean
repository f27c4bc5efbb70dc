import Derived.Test.YtgiiipbpadgcgaaRows
import Derived.OpenShut
import Derived.Test.YtgiiipbpadgcgaaB09

/-
  Actors that are drawn; what DrawRunActors and DrawRecover hand back. No condition.
-/


namespace Go.Proofs.Ytgiiipbpadgcgaa
namespace A
set_option linter.unusedVariables false
set_option linter.unusedSimpArgs false
set_option maxRecDepth 100000

@[simp] theorem getW_midW {α : Type} (A T M : List α) (X W : α) (K : α → Prop) : getW (A ++ X :: (T ++ W :: M)) (A.length + (T.length + 1)) K = K W :=
  getW_of (by rw [List.getElem?_append_right (by omega), Nat.add_sub_cancel_left, List.getElem?_cons_succ, List.getElem?_append_right (Nat.le_refl _)]; simp) K
@[simp] theorem getW_midW1 {α : Type} (A T M : List α) (X W B : α) (K : α → Prop) : getW (A ++ X :: (T ++ W :: B :: M)) (A.length + (T.length + 1 + 1)) K = K B :=
  getW_of (by rw [List.getElem?_append_right (by omega), Nat.add_sub_cancel_left, List.getElem?_cons_succ, List.getElem?_append_right (by omega)]; simp) K
@[simp] theorem set_midW {α : Type} (A T M : List α) (X W Y : α) : (A ++ X :: (T ++ W :: M)).set (A.length + (T.length + 1)) Y = A ++ X :: (T ++ Y :: M) := by
  rw [List.set_append_right _ _ (by omega), Nat.add_sub_cancel_left, List.set_cons_succ, List.set_append_right _ _ (Nat.le_refl _), Nat.sub_self, List.set_cons_zero]

theorem tidyK {a : AObj} {l : List AObj} (h : AvRows [] a) (hl : ∀ o, o ∈ l → ∀ T, AvRows T o) : ∀ o, o ∈ a :: l → AvRows [] o := fun o ho => by
  rcases List.mem_cons.1 ho with rfl | ho
  · exact h
  · exact hl o ho []
theorem l34Cast_con {t i : Nat} {h : Int} {s : SL Int} (hi : i ≤ s.list.length) (hn : s.list.length ≤ 1048576) (c : Nat) :
    Con Try.prog 116 [.ptr 0 t 3 0 0] [cur t s i h] c fun r O _ => ActorsQ t s r O := by
  refine con_of c116 (by simp [F116]) ?_
  unfold F116
  simp
  refine call_num (l1Below_con hi hn (by omega) _) fun x i1 h1 c1 _ x0 x1 k1 => ?_
  rw [if_neg (by omega)] at x1
  obtain ⟨x, rfl⟩ := Int.eq_ofNat_of_zero_le x0
  have hw0 : IntKind.i64.wrap (2 + (x : Int)) = ((x + 2 : Nat) : Int) := by rw [wrap64 (by omega) (by omega)]; omega
  simp [hw0]
  refine loop_drop (x + 2) (fun j e H c' => e 0 = .ptr 0 t 3 0 0 ∧ e 4 = .int .i64 (x + 2 - j : Nat) ∧ ∃ (ta : Nat) (ks : List (Nat × TActor)) (i : Nat) (h : Int), e 3 = .ref 1 ta 7 j ∧ ks.length = j ∧ H = cur t s i h :: ⟨false, ta, 7, rowsY ks⟩ :: innA (ks.map fun p : Nat × TActor => p.2) ∧ i ≤ s.list.length ∧ ∀ x, x ∈ ks.map (fun p : Nat × TActor => p.2) → smA x) ⟨rfl, rfl, _, [], i1, h1, rfl, rfl, rfl, k1, by simp⟩ ?_
  intro j e H c' hj ⟨e0, e4, ta, ks, i2, h2, e3, hy, hH, k2, hb⟩ N hN
  subst hH
  have hrl : (rowsY ks).length = j := by simp [rowsY, hy]
  generalize hys : ks.map (fun p : Nat × TActor => p.2) = ys at hb
  have hyl : ys.length = j := by rw [← hys]; simpa using hy
  by_cases hd : x + 2 - j = 0
  · simp [e0, e3, e4, hd]
    refine fin_ren (List.Sublist.refl _) (.cons (.refl _ _) (.cons (renY ta ks) (.refl _ _))) (.refl _) ⟨ta, ys, i2, h2, by rw [hyl], by rw [← hys], k2, by omega, by omega, hb⟩
  have hjx : j < x + 2 := by omega
  have hdp : 0 < x + 2 - j := by omega
  have hdp' : (0 : Int) < ((x + 2 - j : Nat) : Int) := by omega
  have hdec : IntKind.i64.wrap (((x + 2 - j : Nat) : Int) - 1) = ((x + 2 - (j + 1) : Nat) : Int) := by rw [wrap64 (by omega) (by omega)]; omega
  have m3 : (j + 1) * 72 ≤ 140737488355328 := by omega
  have m4 : j + 1 ≤ mx := by unfold mx; omega
  generalize hq : x + 2 - j = q at e4 hdp hdp' hdec
  simp [e0, e3, e4, hdp, hdp']
  refine call_num (l1Below_con k2 hn (by omega) _) fun ln i3 h3 c3 _ y0 y1 k3 => ?_
  rw [if_neg (by omega)] at y1
  simp [e0, e3, e4]
  refine call_num (l1Below_con k3 hn (by omega) _) fun v i4 h4 c4 _ v0 v1 k4 => ?_
  rw [if_neg (by omega)] at v1
  have hw1 : IntKind.i64.wrap (1 + v) = 1 + v := wrap64 (by omega) (by omega)
  simp [e0, e3, e4, hw1]
  refine call_bool (l1Once_con (n := 2) k4 hn (by omega) _) fun w i5 h5 c5 _ k5 => ?_
  simp [e0, e3, e4, putA]
  refine call_num (l1Below_con k5 hn (by omega) _) fun z i6 h6 c6 _ z0 z1 k6 => ?_
  rw [if_neg (by omega)] at z1
  obtain ⟨z, rfl⟩ := Int.eq_ofNat_of_zero_le z0
  simp [e0, e3, e4]
  refine loop_drop z (fun m e H c' => e 0 = .ptr 0 t 3 0 0 ∧ e 3 = .ref 1 ta 7 j ∧ e 4 = .int .i64 q ∧ e 5 = .ptr ((innA ys).length + 2) c5 7 0 0 ∧ e 6 = .int .i64 (z - m : Nat) ∧ ∃ (T1 : List AObj) (wd : SL Int) (i : Nat) (h : Int), wd.list.length = m ∧ (w = false → wd.list = []) ∧ i ≤ s.list.length ∧
    H = cur t s i h :: ⟨false, ta, 7, rowsY ks⟩ :: (innA ys ++ (⟨false, c5, 7, [[.bool w, .int .i64 ln, .int .i64 (1 + v), wd.at_ ((innA ys).length + (T1.length + 1) + 2) 1, .int .i64 0, .int .i64 0, .int .i64 0]]⟩ :: (T1 ++ wd.wood 1 encI noInn)))) ⟨by simp [upd, e0], by simp [upd, e3], by simp [upd, e4], by simp [upd], by simp [upd], [], .nil, i6, h6, rfl, fun _ => rfl, k6, rfl⟩ ?_
  clear e0 e3 e4
  intro m e H c' hm ⟨e0, e3, e4, e5, e6, T1, wd, i7, h7, hwl, hwf, k7, hH⟩ N2 hN2
  subst hH
  have next : ∀ (e' : Env) (H' : List AObj) (cc : Nat), e' 0 = .ptr 0 t 3 0 0 → e' 4 = .int .i64 (x + 2 - (j + 1) : Nat) → e' 3 = .ref 1 cc 7 (j + 1) →
      (∃ M, H' = cur t s i7 h7 :: ⟨false, cc, 7, rowsY ks ++ [[.bool w, .int .i64 ln, .int .i64 (1 + v), wd.at_ ((innA ys).length + (T1.length + 1) + 2) 1, .int .i64 0, .int .i64 0, .int .i64 0]]⟩ :: (innA ys ++ M) ∧ (wd.wood 1 encI noInn).Sublist M) → ∀ c'', N e' H' c'' := fun e' H' cc f0 f4 f3 ⟨M, hM, hsub⟩ c'' => by
    subst hM
    refine hN _ _ (cur t s i7 h7 :: ⟨false, cc, 7, rowsY (ks ++ [((innA ys).length + (T1.length + 1) + 2, TActor.mk w ln (1 + v) wd 0 0 0)])⟩ :: innA ((ks ++ [((innA ys).length + (T1.length + 1) + 2, TActor.mk w ln (1 + v) wd 0 0 0)]).map fun p : Nat × TActor => p.2)) _ hjx ?_ ⟨f0, f4, cc, _, i7, h7, f3, by simp [hy], rfl, k7, fun y hyy => ?_⟩
    · rw [List.map_append, innA_app, hys]
      have e1 : rowsY (ks ++ [((innA ys).length + (T1.length + 1) + 2, TActor.mk w ln (1 + v) wd 0 0 0)]) = rowsY ks ++ [[.bool w, .int .i64 ln, .int .i64 (1 + v), wd.at_ ((innA ys).length + (T1.length + 1) + 2) 1, .int .i64 0, .int .i64 0, .int .i64 0]] := by simp [rowsY, encY]
      rw [e1]
      refine List.Sublist.cons_cons _ (List.Sublist.cons_cons _ (List.Sublist.append (List.Sublist.refl _) ?_))
      simpa [innA, TActor.inn] using hsub
    · rw [List.map_append, hys] at hyy
      rcases List.mem_append.1 hyy with hyy | hyy
      · exact hb y hyy
      · simp at hyy; subst hyy
        exact ⟨by simp; omega, by simp; omega, by simp; omega, by simp; omega, by simp; omega, rfl, rfl, rfl, hwf⟩
  cases w with
  | false =>
    generalize hT0 : T1 ++ wd.wood 1 encI noInn = T0
    simp [e0, e3, e4, e5, e6, putA, m3, m4, hrl, hdec]
    exact next _ _ _ (by simp [upd, e0]) (by simp [upd]) (by simp [upd]) ⟨_, rfl, by rw [← hT0]; exact (((List.sublist_append_right _ _).trans (List.sublist_append_left _ _)).cons _)⟩ _
  | true =>
    by_cases hz0 : z - m = 0
    · generalize hT0 : T1 ++ wd.wood 1 encI noInn = T0
      simp [e0, e3, e4, e5, e6, putA, m3, m4, hrl, hdec, hz0]
      exact next _ _ _ (by simp [upd, e0]) (by simp [upd]) (by simp [upd]) ⟨_, rfl, by rw [← hT0]; exact (((List.sublist_append_right _ _).trans (List.sublist_append_left _ _)).cons _)⟩ _
    have hmz : m < z := by omega
    have hzp : 0 < z - m := by omega
    have hzp' : (0 : Int) < ((z - m : Nat) : Int) := by omega
    have hzd : IntKind.i64.wrap (((z - m : Nat) : Int) - 1) = ((z - (m + 1) : Nat) : Int) := by rw [wrap64 (by omega) (by omega)]; omega
    generalize hqz : z - m = qz at e6 hzp hzp' hzd
    simp [e0, e3, e4, e5, e6, putA, hzp, hzp']
    refine call_num (l1Below_con k7 hn (by omega) _) fun u i8 h8 c8 _ u0 u1 k8 => ?_
    have m1 : (wd.list.length + 1) * 8 ≤ 140737488355328 := by omega
    have m2 : wd.list.length + 1 ≤ mx := by unfold mx; omega
    cases wd with
    | nil =>
      simp [e0, e3, e4, e5, e6, putA, SL.at_, wood_nilI, hzd]
      refine ⟨by unfold mx; omega, hN2 _ _ _ _ hmz (List.Sublist.refl _) ⟨by simp [upd, e0], by simp [upd, e3], by simp [upd, e4], by simp [upd, e5], by simp [upd], T1 ++ [⟨false, c8, 1, [[.int .i64 u]]⟩], .mk (c8 + 1) [u], i8, h8, ?_, by simp, k8, ?_⟩⟩
      · simp at hwl; simp [← hwl]
      · simp [SL.at_, flat_wood, encI]
    | mk tw l =>
      simp only [SL.list_mk] at m1 m2 hwl
      simp [e0, e3, e4, e5, e6, putA, SL.at_, flat_wood, hzd, m1, m2]
      refine hN2 _ _ (cur t s i8 h8 :: ⟨false, ta, 7, rowsY ks⟩ :: (innA ys ++ (⟨false, c5, 7, [[.bool true, .int .i64 ln, .int .i64 (1 + v), .ref ((innA ys).length + (T1.length + 1) + 2) (c8 + 1) 1 (l.length + 1), .int .i64 0, .int .i64 0, .int .i64 0]]⟩ :: (T1 ++ [⟨false, c8 + 1, 1, l.map encI ++ [[.int .i64 u]]⟩])))) _ hmz ?_ ⟨by simp [upd, e0], by simp [upd, e3], by simp [upd, e4], by simp [upd, e5], by simp [upd], T1, .mk (c8 + 1) (l ++ [u]), i8, h8, ?_, by simp, k8, ?_⟩
      · exact List.Sublist.cons_cons _ (List.Sublist.cons_cons _ (List.Sublist.append (List.Sublist.refl _) (List.Sublist.cons_cons _ (List.Sublist.append (List.Sublist.refl _) (sub_one _ _)))))
      · simp [hwl]
      · simp [SL.at_, flat_wood, encI]

/-- Lines, actors and an order, as0 trees. -/
def DrawnQ (b : SL TLine) (d : SL TActor) (o : SL Int) : Prop := 1 ≤ b.list.length ∧ b.list.length ≤ 3 ∧ (∀ x, x ∈ b.list → smL x) ∧ 2 ≤ d.list.length ∧ d.list.length ≤ 5 ∧ (∀ x, x ∈ d.list → smA x) ∧ o.list.length ≤ 160 ∧ ∀ x, x ∈ o.list → -6 ≤ x ∧ x ≤ 5
def DrawnO (r : AV) (O : List AObj) : Prop := ∃ (b : SL TLine) (d : SL TActor) (o : SL Int), r = .tup [b.ref 4, d.ref 7, o.ref 1] ∧ O = b.wood 4 TLine.encO TLine.inn ++ (d.wood 7 TActor.encO TActor.inn ++ o.wood 1 encI noInn) ∧ DrawnQ b d o
theorem drawnO_tr {f : Nat} {args : List AV} (h : ∀ c, Con Try.prog f args [] c fun r O _ => DrawnO r O) : Tr Try.prog f args fun _ r => ∃ (b : SL TLine) (d : SL TActor) (o : SL Int), r = .tup [b.av 4 TLine.enc, d.av 7 TActor.enc, o.av 1 encI] ∧ DrawnQ b d o :=
  tr_of h fun c r O c' _ ⟨b, d, o, h1, h2, h3⟩ ht => ⟨.tup [b.av 4 TLine.enc, d.av 7 TActor.enc, o.av 1 encI], by
    rw [h1]
    exact view_tup (.cons (view_line (by rw [h2]; exact fun _ h => List.mem_append_left _ h)) (.cons (view_actor (by rw [h2]; exact fun _ h => List.mem_append_right _ (List.mem_append_left _ h))) (.cons (view_flat (by rw [h2]; exact fun _ h => List.mem_append_right _ (List.mem_append_right _ h)) encI_flat.cells) .nil))), ⟨b, d, o, rfl, h3⟩, from_tup fun a ha => by
    have eT : ∀ X Y : List AObj, tags (X ++ Y) = tags X ++ tags Y := fun X Y => by simp [tags]
    rw [h2, eT, eT] at ht
    simp at ha
    rcases ha with rfl | rfl | rfl
    · exact line_from fun t h => ht t (List.mem_append_left _ h)
    · exact actor_from fun t h => ht t (List.mem_append_right _ (List.mem_append_left _ h))
    · exact flat_from encI_flat fun t h => ht t (List.mem_append_right _ (List.mem_append_right _ h))⟩

theorem drawRunO {s : SL Int} (hn : s.list.length ≤ 1048576) (c : Nat) : Con Try.prog 65 [s.av 1 encU] [] c fun r O _ => DrawnO r O := by
  refine con_of c65 (by simp [F65]) ?_
  unfold F65
  simp
  refine call_con (l1New_con hn _) fun r O c1 _ ⟨t, h, hr, hO⟩ _ _ => ?_
  subst hr; subst hO
  refine ⟨.ptr, fun o ho => by simp at ho; subst ho; exact cur_rows t s 0 h, ?_⟩
  simp
  refine call_con (l34Draw_con (by omega) hn _) fun r O c2 _ ⟨tl, l, i, h, hr, hO, hi, g1, g2, g3⟩ _ _ => ?_
  subst hr; subst hO
  refine ⟨.ref, tidyK (cur_rows t s i h) (tidyC (tidy_L tl l) (tidy_inns l)), ?_⟩
  simp
  refine call_curN (l34Cast_con hi hn _) fun r O c3 _ ⟨ta, cs, i2, h2, hr, hO, hi2, g4, g5, g6⟩ => ?_
  subst hr; subst hO
  refine ⟨i2, h2, _, .ref 0 ta 7 cs.length, rfl, .name, .ref, tidyK (cur_rows t s i2 h2) (tidyC (tidy_A ta cs) (tidy_innA cs)), ?_⟩
  simp
  refine call_curN (l34Order_con hi2 hn _) fun r O c4 _ ⟨to, os, i3, h3, hr, hO, hi3, g7, g8⟩ => ?_
  subst hr; subst hO
  refine ⟨i3, h3, _, .ref 0 to 1 os.length, rfl, .name, .ref, tidyK (cur_rows t s i3 h3) (tidyC (fun T => flat_free encI_flat 1 (.mk to os) _ (by rw [flat_wood]; simp) T) tidy0), ?_⟩
  simp
  refine fin_sub (Hk := (SL.mk tl l).wood 4 TLine.encO TLine.inn ++ ((SL.mk ta cs).wood 7 TActor.encO TActor.inn ++ (SL.mk to os).wood 1 encI noInn)) ?_ (v' := .tup [(SL.mk tl l).ref 4, (SL.mk ta cs).ref 7, (SL.mk to os).ref 1]) (view_tup (.cons .name (.cons .name (.cons .name .nil)))) ⟨.mk tl l, .mk ta cs, .mk to os, rfl, rfl, g1, g2, g3, g4, g5, g6, g7, g8⟩
  rw [wood_inns, wood_innA, flat_wood]
  simp
end A
end Go.Proofs.Ytgiiipbpadgcgaa

/-
  The code that a law of the second kind is given: a slice of bytes. No condition.
-/


namespace Go.Proofs.Ytgiiipbpadgcgaa
namespace A
set_option linter.unusedVariables false
theorem shByteS {n : Nat} {a : AV} (h : ShC Try.prog n 49 [a]) : ∃ s : SL Int, a = s.av 1 encU ∧ s.list.length ≤ mx := by
  obtain ⟨s, h1, h2, h3⟩ := sh_slc (P := Try.prog) (t := 49) (el := 5) (w := 1) (enc := encU) (ok := fun _ => True) (by kernel_rfl) (by kernel_rfl) (fun n row h => by obtain ⟨i, h1, _⟩ := sh_int1 (k := .u8) (P := Try.prog) (t := 5) (by kernel_rfl) h; exact ⟨i, h1, trivial⟩) h
  exact ⟨s, h1, h2⟩
end A
end Go.Proofs.Ytgiiipbpadgcgaa

/-
  FnNeverTorn answers true. No condition.
-/


namespace Go.Proofs.Ytgiiipbpadgcgaa
namespace A
set_option linter.unusedVariables false
set_option linter.unusedSimpArgs false
set_option maxRecDepth 100000

theorem sameInts_fn (a b : SL Int) (ha : a.list.length ≤ mx) : Fnc Try.prog 69 [a.av 1 encI, b.av 1 encI] (.bool (decide (a.list = b.list))) := by
  refine fn_of c69 (by simp [F69]) fun c => ?_
  unfold F69
  by_cases hl : a.list.length = b.list.length
  rotate_left
  · have hne : ¬ a.list = b.list := fun h => hl (by rw [h])
    have hl' : ¬ (a.list.length : Int) = b.list.length := fun h => hl (by omega)
    simp [hl', hne]
    exact fin_plain ⟨rfl, rfl⟩
  simp [hl]
  refine loop_drop b.list.length (fun i e H c' => e 0 = a.av 1 encI ∧ e 1 = b.av 1 encI ∧ e 5 = .int .i64 i ∧ a.list.take i = b.list.take i ∧ H = []) ⟨rfl, rfl, rfl, by simp, rfl⟩ ?_
  intro i e H c hi ⟨e0, e1, e5, ht, hH⟩ N hN
  subst hH
  by_cases h : i < b.list.length
  · have ga : a.list[i]? = some a.list[i] := List.getElem?_eq_getElem (by omega)
    have gb : b.list[i]? = some b.list[i] := List.getElem?_eq_getElem h
    have hta : a.list.take (i + 1) = a.list.take i ++ [a.list[i]] := List.take_succ_eq_append_getElem (by omega)
    have htb : b.list.take (i + 1) = b.list.take i ++ [b.list[i]] := List.take_succ_eq_append_getElem h
    have hne : a.list[i] ≠ b.list[i] → ¬ a.list = b.list := fun hn he => hn (by simp [he])
    generalize a.list[i] = x at ga hta hne
    generalize b.list[i] = y at gb htb hne
    simp [e0, e1, e5, hl, h]
    refine ⟨x, ga, ?_⟩
    simp [e0, e1, e5, hl, h]
    refine ⟨y, gb, ?_⟩
    by_cases hxy : x = y
    · simp [e0, e1, e5, hl, h, hxy]
      exact hN _ _ _ _ h (List.Sublist.refl _) ⟨by simp [upd, e0], by simp [upd, e1], by simp [upd]; exact step64 (by omega) h, by rw [hta, htb, ht, hxy], rfl⟩
    · simp [e0, e1, e5, hl, h, hxy]
      exact fin_plain ⟨by simp [hne hxy], rfl⟩
  · have hi' : i = b.list.length := by omega
    subst hi'
    simp [e0, e1, e5, hl]
    refine fin_plain ⟨?_, rfl⟩
    rw [← hl, List.take_length, hl, List.take_length] at ht
    simp [ht]

def fnd0 (l : List TLine) (r : TActor) : Bool := match l[r.Line.toNat]? with | some x => decide (x.Version = r.Version) && decide (x.Words.list = r.Words.list) | none => false
def fndW (r w : TActor) : Bool := w.Writer && decide (w.State = 2) && decide (w.Line = r.Line) && decide (w.Version = r.Version) && decide (w.Words.list = r.Words.list)
theorem nt_start {l : List TLine} {cs : List TActor} (hl : ∀ x, x ∈ l → smL x) (hc : cs.length ≤ 5) (ha : ∀ x, x ∈ cs → smA x) : NT 100 (l.map TLine.pl) 0 (l.map TLine.pl, cs.map TActor.pa) := by
  refine ⟨by simp; omega, fun x hx => ?_, fun a ha' => ?_, fun i a hia hw hs => ?_, fun i a hia hw hs => ?_, fun k x hk hp => .inr (.inl ⟨x, hk, rfl, rfl⟩), fun a ha' hw hs => ?_⟩
  · obtain ⟨y, hy, rfl⟩ := List.mem_map.1 hx
    obtain ⟨h1, h2, h3, h4, h5, h6, h7⟩ := hl y hy
    refine ⟨h1, ?_, ?_, ?_, h5, ?_, ?_, ?_⟩ <;> simp only [TLine.pl]
    · omega
    · omega
    · omega
    · omega
    · omega
    · rw [Int.tmod_eq_emod_of_nonneg h1]; omega
  · obtain ⟨y, hy, rfl⟩ := List.mem_map.1 ha'
    obtain ⟨h1, h2, h3, h4, h5, h6, h7, h8, h9⟩ := ha y hy
    exact ⟨h3, by simp only [TActor.pa]; omega, by simp only [TActor.pa]; omega, fun _ => ⟨h7, h9⟩⟩
  all_goals
    exfalso
    first
      | (rw [List.getElem?_map, Option.map_eq_some_iff] at hia
         obtain ⟨y, hy, rfl⟩ := hia
         have := (ha y (List.mem_of_getElem? hy)).2.2.2.2.2.1
         simp only [TActor.pa] at hs
         omega)
      | (obtain ⟨y, hy, rfl⟩ := List.mem_map.1 ha'
         have := (ha y hy).2.2.2.2.2.1
         simp only [TActor.pa] at hs
         omega)
theorem nt_lines {l0 : List PL} {n : Nat} {p : List PL × List PA} {l : List TLine} (h : NT 100 l0 n p) (hn : n ≤ 1000000) (hl : l.map TLine.pl = p.1) (hlen : l.length ≤ 8) : areLines l = true := by
  unfold areLines
  simp only [Bool.and_eq_true, List.all_eq_true, decide_eq_true_eq]
  refine ⟨fun x hx => ?_, hlen⟩
  obtain ⟨h1, h2, h3, h4, h5, h6, h7, h8⟩ := h.ok x.pl (by rw [← hl]; exact List.mem_map.2 ⟨x, hx, rfl⟩)
  simp only [TLine.pl] at h1 h2 h3 h4 h5 h6 h7 h8
  unfold lineOk inR
  simp only [Bool.and_eq_true, decide_eq_true_eq, beq_iff_eq, decide_eq_decide]
  exact ⟨⟨⟨⟨⟨h1, by omega⟩, h3, h4⟩, h5, h6⟩, h7⟩, h8⟩
theorem nt_found {l : List TLine} {n : Nat} {p : List PL × List PA} {cs : List TActor} (h : NT 100 (l.map TLine.pl) n p) (hg : Gd n p) (hc : cs.map TActor.pa = p.2) {r : TActor} (hr : r ∈ cs) (hw : r.Writer = false) (hs : r.State = 2) :
    (fnd0 l r || cs.any (fndW r)) = true := by
  have hr' : r.pa ∈ p.2 := by rw [← hc]; exact List.mem_map.2 ⟨r, hr, rfl⟩
  rcases h.dn r.pa hr' hw hs with ⟨x, hx, hv, hws⟩ | ⟨w, hwm, h1, h2, h3, h4, h5⟩
  · rw [List.getElem?_map, Option.map_eq_some_iff] at hx
    obtain ⟨y, hy, rfl⟩ := hx
    have hy' : l[r.Line.toNat]? = some y := hy
    simp only [TLine.pl, TActor.pa] at hv hws
    simp [fnd0, hy', hv, hws]
  · rw [← hc] at hwm
    obtain ⟨y, hy, rfl⟩ := List.mem_map.1 hwm
    have l1 : 0 ≤ y.Line := (hg.a y.pa (by rw [← hc]; exact List.mem_map.2 ⟨y, hy, rfl⟩)).l0
    have l2 : 0 ≤ r.Line := (hg.a r.pa hr').l0
    simp only [TActor.pa] at h1 h2 h3 h4 h5
    have h3' : y.Line = r.Line := by omega
    rw [Bool.or_eq_true]
    refine .inr (List.any_eq_true.2 ⟨y, hy, ?_⟩)
    simp [fndW, h1, h2, h3', h4, h5]
/-- What is handed back, seen as0 trees. -/
theorem run_trN {f : Nat} {args : List AV} {p : List PL × List PA} (h : ∀ c, Con Try.prog f args [] c fun r O _ => RunQ p r O) :
    Tr Try.prog f args fun _ r => ∃ (b : SL TLine) (e : SL TActor), r = .tup [b.av 4 TLine.enc, e.av 7 TActor.enc] ∧ (b.list.map TLine.pl, e.list.map TActor.pa) = p :=
  tr_of h fun c r O c' _ ⟨b, e, h1, h2, h3⟩ ht => ⟨.tup [b.av 4 TLine.enc, e.av 7 TActor.enc], by
    rw [h1]
    exact view_tup (.cons (view_line (by rw [h2]; exact fun _ h => List.mem_append_left _ h)) (.cons (view_actor (by rw [h2]; exact fun _ h => List.mem_append_right _ h)) .nil)), ⟨b, e, rfl, h3⟩, from_tup fun a ha => by
    have eT : ∀ X Y : List AObj, tags (X ++ Y) = tags X ++ tags Y := fun X Y => by simp [tags]
    rw [h2, eT] at ht
    simp at ha
    rcases ha with rfl | rfl
    · exact line_from fun t h => ht t (List.mem_append_left _ h)
    · exact actor_from fun t h => ht t (List.mem_append_right _ h)⟩

theorem bigN_fn (s : SL Int) : Fnc Try.prog 41 [s.av 1 encU] (.bool (decide (1048576 < (s.list.length : Int)))) := by
  refine fn_of c41 (by simp [F41]) fun c => ?_
  unfold F41
  simp
  exact fin_plain ⟨rfl, rfl⟩
theorem any_step {α : Type} (p : α → Bool) (l : List α) {i : Nat} (h : i < l.length) : (l.take (i + 1)).any p = ((l.take i).any p || p l[i]) := by
  rw [List.take_succ_eq_append_getElem h, List.any_append]; simp

theorem law_never {s : SL Int} (hs : s.list.length ≤ mx) (c : Nat) : Con Try.prog 16 [s.av 1 encU] [] c fun r H' _ => r = .bool true ∧ H' = [] := by
  refine con_of c16 (by simp [F16]) ?_
  unfold F16
  simp
  refine call_fn0 (bigN_fn s) .bool fun _ _ => ?_
  by_cases hbig : (1048576 : Int) < s.list.length
  · simp [hbig]
    exact fin_plain ⟨rfl, rfl⟩
  simp [hbig]
  refine call_tree0 (drawnO_tr (drawRunO (by omega))) fun r c1 _ ⟨b, d, o, hr, g1, g2, g3, g4, g5, g6, g7, g8⟩ _ => ?_
  subst hr
  simp
  refine call_tree0 (run_trN (impl_run (s := b) (d := d) (sch := o) (by omega) (fun x hx => by have := (g3 x hx).2.2.2.2.2.2; omega) (by omega) (fun x hx => by have := (g6 x hx).2.2.2.2.1; omega) (by omega) (fun k hk => by have := g8 k hk; omega))) fun r c2 _ ⟨l, e, hr, hrun⟩ _ => ?_
  subst hr
  simp
  have hlens : l.list.length = b.list.length ∧ e.list.length = d.list.length := by
    have h1 := congrArg (fun p : List PL × List PA => (p.1.length, p.2.length)) hrun
    simp only [List.length_map] at h1
    have h2 : (runAll b.list d.list o.list).1.length = b.list.length ∧ (runAll b.list d.list o.list).2.length = d.list.length := by
      unfold runAll
      split
      · have := run_len (b.list.map TLine.pl, d.list.map TActor.pa) o.list
        simpa using this
      · simp
    simp only [Prod.mk.injEq] at h1
    omega
  refine call_fn0 (spec_areLines (by unfold mx; omega)) .bool fun _ _ => ?_
  cases h1 : areLines b.list
  · simp [hlens]
    exact fin_plain ⟨rfl, rfl⟩
  simp
  refine call_fn0 (spec_areActors (by unfold mx; omega)) .bool fun _ _ => ?_
  cases h2 : areActors d.list
  · simp [hlens]
    exact fin_plain ⟨rfl, rfl⟩
  simp
  have hall : runAll b.list d.list o.list = runA (b.list.map TLine.pl, d.list.map TActor.pa) o.list := by rw [runAll, h1, h2]; simp; intro hd; rw [hd] at g4; simp at g4
  rw [hall] at hrun
  have nt := NT.run o.list o.list.length (Nat.le_refl _) (nt_start g3 g5 g6)
  have hg := Gd.run (gd_start h1 h2) o.list o.list.length (Nat.le_refl _)
  rw [List.take_length, ← hrun] at nt hg
  have h3 := nt_lines nt (by omega) rfl (by omega)
  refine call_fn0 (spec_areLines (by unfold mx; omega)) .bool fun _ _ => ?_
  simp [h3, hlens]
  have hgd : ∀ w, w ∈ e.list → 0 ≤ w.Line := fun w hw => (hg.a w.pa (List.mem_map.2 ⟨w, hw, rfl⟩)).l0
  have found : ∀ r, r ∈ e.list → r.Writer = false → r.State = 2 → (fnd0 b.list r || e.list.any (fndW r)) = true := fun r hr hw hst => nt_found nt hg rfl hr hw hst
  have wds : ∀ x, x ∈ b.list → x.Words.list.length ≤ mx := fun x hx => by have := (g3 x hx).2.2.2.2.2.2; unfold mx; omega
  have wde : ∀ x, x ∈ e.list → x.Words.list.length ≤ mx := fun x hx => by have := (nt.ao x.pa (List.mem_map.2 ⟨x, hx, rfl⟩)).w; simp only [TActor.pa] at this; unfold mx; omega
  refine loop_drop e.list.length (fun i ev H c' => ev 3 = b.av 4 TLine.enc ∧ ev 7 = e.av 7 TActor.enc ∧ ev 8 = .int .i64 i ∧ H = []) ⟨rfl, rfl, rfl, rfl⟩ ?_
  intro i ev H c' hi ⟨e3, e7, e8, hH⟩ N hN
  subst hH
  by_cases h : i < e.list.length
  rotate_left
  · have : i = e.list.length := by omega
    subst this
    simp [e3, e7, e8]
    exact fin_plain ⟨rfl, rfl⟩
  have hr : e.list[i]? = some e.list[i] := List.getElem?_eq_getElem h
  have hrm := List.getElem_mem h
  generalize e.list[i] = r at hr hrm
  have hstep : IntKind.i64.wrap ((i : Int) + 1) = ((i + 1 : Nat) : Int) := by rw [step64 (by unfold mx; omega) h]; rfl
  simp [e3, e7, e8, h, putA]
  refine ⟨r, hr, ?_⟩
  by_cases hw : r.Writer = true
  · simp [e3, e7, e8, h, hw, putA, hstep]
    exact hN _ _ _ _ h (List.nil_sublist _) ⟨by simp [upd, e3], by simp [upd, e7], by simp [upd], rfl⟩
  have hw : r.Writer = false := by simpa using hw
  by_cases hst : r.State = 2
  rotate_left
  · simp [e3, e7, e8, h, hw, hst, putA, hstep]
    exact hN _ _ _ _ h (List.nil_sublist _) ⟨by simp [upd, e3], by simp [upd, e7], by simp [upd], rfl⟩
  have hfd := found r hrm hw hst
  have hrl := hgd r hrm
  obtain ⟨k, hk⟩ := Int.eq_ofNat_of_zero_le hrl
  simp [e3, e7, e8, h, hw, hst, putA, hk]
  have wr : r.Words.list.length ≤ mx := wde r hrm
  by_cases hk2 : k < b.list.length
  · have gx : b.list[k]? = some b.list[k] := List.getElem?_eq_getElem hk2
    have wx := wds _ (List.getElem_mem hk2)
    generalize b.list[k] = x at gx wx
    by_cases hv : x.Version = r.Version
    · simp [e3, e7, e8, h, hw, hst, putA, hk, hk2]
      refine ⟨x, gx, ?_⟩
      simp [e3, e7, e8, h, hw, hst, putA, hk, hk2, hv]
      refine ⟨x, gx, ?_⟩
      simp [e3, e7, e8, h, hw, hst, putA, hk, hk2, hv]
      refine callF_fn0 (sameInts_fn x.Words r.Words wx) .bool fun _ _ => ?_
      have hf : fnd0 b.list r = decide (x.Words.list = r.Words.list) := by simp [fnd0, hk, gx, hv]
      simp
      refine loop_drop e.list.length (fun j ev2 H c2' => ev2 3 = b.av 4 TLine.enc ∧ ev2 7 = e.av 7 TActor.enc ∧ ev2 8 = .int .i64 i ∧ ev2 9 = .ptr 0 c' 7 0 0 ∧ ev2 10 = .bool (fnd0 b.list r || (e.list.take j).any (fndW r)) ∧ ev2 11 = .int .i64 j ∧ H = [⟨false, c', 7, [r.enc]⟩]) ⟨by simp [upd, e3], by simp [upd, e7], by simp [upd, e8], by simp [upd], by simp [upd, hf], by simp [upd], rfl⟩ ?_
      intro j ev2 H c3 hj ⟨q3, q7, q8, q9, q10, q11, hH⟩ N2 hN2
      subst hH
      by_cases hjl : j < e.list.length
      rotate_left
      · have : j = e.list.length := by omega
        subst this
        rw [List.take_length, hfd] at q10
        simp [q3, q7, q8, q9, q10, q11, hstep]
        exact hN _ _ _ _ h (List.nil_sublist _) ⟨by simp [upd, q3], by simp [upd, q7], by simp [upd], rfl⟩
      have gw : e.list[j]? = some e.list[j] := List.getElem?_eq_getElem hjl
      have ww := wde _ (List.getElem_mem hjl)
      have hany := any_step (fndW r) e.list hjl
      generalize e.list[j] = w at gw ww hany
      have hstep2 : IntKind.i64.wrap ((j : Int) + 1) = ((j + 1 : Nat) : Int) := by rw [step64 (by unfold mx; omega) hjl]; rfl
      have hsub : List.Sublist [(⟨false, c', 7, [r.enc]⟩ : AObj)] [⟨false, c', 7, [r.enc]⟩, ⟨false, c3, 7, [w.enc]⟩] := List.Sublist.cons_cons _ (List.nil_sublist _)
      simp [q3, q7, q8, q9, q10, q11, hjl, putA]
      refine ⟨w, gw, ?_⟩
      cases hF : (fnd0 b.list r || (e.list.take j).any (fndW r))
      rotate_left
      · simp [q3, q7, q8, q9, q10, q11, hjl, putA, hF, hstep2]
        exact hN2 _ _ _ _ hjl hsub ⟨by simp [upd, q3], by simp [upd, q7], by simp [upd, q8], by simp [upd, q9], by rw [hany, ← Bool.or_assoc, hF]; simp [upd], by simp [upd], rfl⟩
      have fin : ∀ v, fndW r w = v → v = (fnd0 b.list r || (e.list.take (j + 1)).any (fndW r)) := fun v hv => by rw [hany, ← Bool.or_assoc, hF]; simp [hv]
      rw [hF] at q10
      by_cases w1 : w.Writer = true
      rotate_left
      · simp [q3, q7, q8, q9, q10, q11, hjl, putA, hF, w1, hstep2]
        exact hN2 _ _ _ _ hjl hsub ⟨by simp [upd, q3], by simp [upd, q7], by simp [upd, q8], by simp [upd, q9], by rw [← fin false (by simp [fndW, w1])]; simp [upd], by simp [upd], rfl⟩
      by_cases w2 : w.State = 2
      rotate_left
      · simp [q3, q7, q8, q9, q10, q11, hjl, putA, hF, w1, w2, hstep2]
        exact hN2 _ _ _ _ hjl hsub ⟨by simp [upd, q3], by simp [upd, q7], by simp [upd, q8], by simp [upd, q9], by rw [← fin false (by simp [fndW, w2])]; simp [upd], by simp [upd], rfl⟩
      by_cases w3 : w.Line = k
      rotate_left
      · simp [q3, q7, q8, q9, q10, q11, hjl, putA, hF, w1, w2, w3, hk, hstep2]
        exact hN2 _ _ _ _ hjl hsub ⟨by simp [upd, q3], by simp [upd, q7], by simp [upd, q8], by simp [upd, q9], by rw [← fin false (by simp [fndW, w3, hk])]; simp [upd], by simp [upd], rfl⟩
      by_cases w4 : w.Version = r.Version
      rotate_left
      · simp [q3, q7, q8, q9, q10, q11, hjl, putA, hF, w1, w2, w3, w4, hk, hstep2]
        exact hN2 _ _ _ _ hjl hsub ⟨by simp [upd, q3], by simp [upd, q7], by simp [upd, q8], by simp [upd, q9], by rw [← fin false (by simp [fndW, w4])]; simp [upd], by simp [upd], rfl⟩
      simp [q3, q7, q8, q9, q10, q11, hjl, putA, hF, w1, w2, w3, w4, hk, hstep2]
      refine call_fn0 (sameInts_fn w.Words r.Words ww) .bool fun _ _ => ?_
      simp [q11, hstep2]
      exact hN2 _ _ _ _ hjl hsub ⟨by simp [upd, q3], by simp [upd, q7], by simp [upd, q8], by simp [upd, q9], by rw [← fin (decide (w.Words.list = r.Words.list)) (by simp [fndW, w1, w2, w3, w4, hk])]; simp [upd], by simp [upd], rfl⟩
    · simp [e3, e7, e8, h, hw, hst, putA, hk, hk2]
      refine ⟨x, gx, ?_⟩
      have hf : fnd0 b.list r = false := by simp [fnd0, hk, gx, hv]
      simp [e3, e7, e8, h, hw, hst, putA, hk, hk2, hv]
      refine loop_drop e.list.length (fun j ev2 H c2' => ev2 3 = b.av 4 TLine.enc ∧ ev2 7 = e.av 7 TActor.enc ∧ ev2 8 = .int .i64 i ∧ ev2 9 = .ptr 0 c' 7 0 0 ∧ ev2 10 = .bool (fnd0 b.list r || (e.list.take j).any (fndW r)) ∧ ev2 11 = .int .i64 j ∧ H = [⟨false, c', 7, [r.enc]⟩]) ⟨by simp [upd, e3], by simp [upd, e7], by simp [upd, e8], by simp [upd], by simp [upd, hf], by simp [upd], rfl⟩ ?_
      intro j ev2 H c3 hj ⟨q3, q7, q8, q9, q10, q11, hH⟩ N2 hN2
      subst hH
      by_cases hjl : j < e.list.length
      rotate_left
      · have : j = e.list.length := by omega
        subst this
        rw [List.take_length, hfd] at q10
        simp [q3, q7, q8, q9, q10, q11, hstep]
        exact hN _ _ _ _ h (List.nil_sublist _) ⟨by simp [upd, q3], by simp [upd, q7], by simp [upd], rfl⟩
      have gw : e.list[j]? = some e.list[j] := List.getElem?_eq_getElem hjl
      have ww := wde _ (List.getElem_mem hjl)
      have hany := any_step (fndW r) e.list hjl
      generalize e.list[j] = w at gw ww hany
      have hstep2 : IntKind.i64.wrap ((j : Int) + 1) = ((j + 1 : Nat) : Int) := by rw [step64 (by unfold mx; omega) hjl]; rfl
      have hsub : List.Sublist [(⟨false, c', 7, [r.enc]⟩ : AObj)] [⟨false, c', 7, [r.enc]⟩, ⟨false, c3, 7, [w.enc]⟩] := List.Sublist.cons_cons _ (List.nil_sublist _)
      simp [q3, q7, q8, q9, q10, q11, hjl, putA]
      refine ⟨w, gw, ?_⟩
      cases hF : (fnd0 b.list r || (e.list.take j).any (fndW r))
      rotate_left
      · simp [q3, q7, q8, q9, q10, q11, hjl, putA, hF, hstep2]
        exact hN2 _ _ _ _ hjl hsub ⟨by simp [upd, q3], by simp [upd, q7], by simp [upd, q8], by simp [upd, q9], by rw [hany, ← Bool.or_assoc, hF]; simp [upd], by simp [upd], rfl⟩
      have fin : ∀ v, fndW r w = v → v = (fnd0 b.list r || (e.list.take (j + 1)).any (fndW r)) := fun v hv => by rw [hany, ← Bool.or_assoc, hF]; simp [hv]
      rw [hF] at q10
      by_cases w1 : w.Writer = true
      rotate_left
      · simp [q3, q7, q8, q9, q10, q11, hjl, putA, hF, w1, hstep2]
        exact hN2 _ _ _ _ hjl hsub ⟨by simp [upd, q3], by simp [upd, q7], by simp [upd, q8], by simp [upd, q9], by rw [← fin false (by simp [fndW, w1])]; simp [upd], by simp [upd], rfl⟩
      by_cases w2 : w.State = 2
      rotate_left
      · simp [q3, q7, q8, q9, q10, q11, hjl, putA, hF, w1, w2, hstep2]
        exact hN2 _ _ _ _ hjl hsub ⟨by simp [upd, q3], by simp [upd, q7], by simp [upd, q8], by simp [upd, q9], by rw [← fin false (by simp [fndW, w2])]; simp [upd], by simp [upd], rfl⟩
      by_cases w3 : w.Line = k
      rotate_left
      · simp [q3, q7, q8, q9, q10, q11, hjl, putA, hF, w1, w2, w3, hk, hstep2]
        exact hN2 _ _ _ _ hjl hsub ⟨by simp [upd, q3], by simp [upd, q7], by simp [upd, q8], by simp [upd, q9], by rw [← fin false (by simp [fndW, w3, hk])]; simp [upd], by simp [upd], rfl⟩
      by_cases w4 : w.Version = r.Version
      rotate_left
      · simp [q3, q7, q8, q9, q10, q11, hjl, putA, hF, w1, w2, w3, w4, hk, hstep2]
        exact hN2 _ _ _ _ hjl hsub ⟨by simp [upd, q3], by simp [upd, q7], by simp [upd, q8], by simp [upd, q9], by rw [← fin false (by simp [fndW, w4])]; simp [upd], by simp [upd], rfl⟩
      simp [q3, q7, q8, q9, q10, q11, hjl, putA, hF, w1, w2, w3, w4, hk, hstep2]
      refine call_fn0 (sameInts_fn w.Words r.Words ww) .bool fun _ _ => ?_
      simp [q11, hstep2]
      exact hN2 _ _ _ _ hjl hsub ⟨by simp [upd, q3], by simp [upd, q7], by simp [upd, q8], by simp [upd, q9], by rw [← fin (decide (w.Words.list = r.Words.list)) (by simp [fndW, w1, w2, w3, w4, hk])]; simp [upd], by simp [upd], rfl⟩
  · have hf : fnd0 b.list r = false := by simp [fnd0, hk, List.getElem?_eq_none (Nat.le_of_not_lt hk2)]
    simp [e3, e7, e8, h, hw, hst, putA, hk, hk2]
    refine loop_drop e.list.length (fun j ev2 H c2' => ev2 3 = b.av 4 TLine.enc ∧ ev2 7 = e.av 7 TActor.enc ∧ ev2 8 = .int .i64 i ∧ ev2 9 = .ptr 0 c' 7 0 0 ∧ ev2 10 = .bool (fnd0 b.list r || (e.list.take j).any (fndW r)) ∧ ev2 11 = .int .i64 j ∧ H = [⟨false, c', 7, [r.enc]⟩]) ⟨by simp [upd, e3], by simp [upd, e7], by simp [upd, e8], by simp [upd], by simp [upd, hf], by simp [upd], rfl⟩ ?_
    intro j ev2 H c3 hj ⟨q3, q7, q8, q9, q10, q11, hH⟩ N2 hN2
    subst hH
    by_cases hjl : j < e.list.length
    rotate_left
    · have : j = e.list.length := by omega
      subst this
      rw [List.take_length, hfd] at q10
      simp [q3, q7, q8, q9, q10, q11, hstep]
      exact hN _ _ _ _ h (List.nil_sublist _) ⟨by simp [upd, q3], by simp [upd, q7], by simp [upd], rfl⟩
    have gw : e.list[j]? = some e.list[j] := List.getElem?_eq_getElem hjl
    have ww := wde _ (List.getElem_mem hjl)
    have hany := any_step (fndW r) e.list hjl
    generalize e.list[j] = w at gw ww hany
    have hstep2 : IntKind.i64.wrap ((j : Int) + 1) = ((j + 1 : Nat) : Int) := by rw [step64 (by unfold mx; omega) hjl]; rfl
    have hsub : List.Sublist [(⟨false, c', 7, [r.enc]⟩ : AObj)] [⟨false, c', 7, [r.enc]⟩, ⟨false, c3, 7, [w.enc]⟩] := List.Sublist.cons_cons _ (List.nil_sublist _)
    simp [q3, q7, q8, q9, q10, q11, hjl, putA]
    refine ⟨w, gw, ?_⟩
    cases hF : (fnd0 b.list r || (e.list.take j).any (fndW r))
    rotate_left
    · simp [q3, q7, q8, q9, q10, q11, hjl, putA, hF, hstep2]
      exact hN2 _ _ _ _ hjl hsub ⟨by simp [upd, q3], by simp [upd, q7], by simp [upd, q8], by simp [upd, q9], by rw [hany, ← Bool.or_assoc, hF]; simp [upd], by simp [upd], rfl⟩
    have fin : ∀ v, fndW r w = v → v = (fnd0 b.list r || (e.list.take (j + 1)).any (fndW r)) := fun v hv => by rw [hany, ← Bool.or_assoc, hF]; simp [hv]
    rw [hF] at q10
    by_cases w1 : w.Writer = true
    rotate_left
    · simp [q3, q7, q8, q9, q10, q11, hjl, putA, hF, w1, hstep2]
      exact hN2 _ _ _ _ hjl hsub ⟨by simp [upd, q3], by simp [upd, q7], by simp [upd, q8], by simp [upd, q9], by rw [← fin false (by simp [fndW, w1])]; simp [upd], by simp [upd], rfl⟩
    by_cases w2 : w.State = 2
    rotate_left
    · simp [q3, q7, q8, q9, q10, q11, hjl, putA, hF, w1, w2, hstep2]
      exact hN2 _ _ _ _ hjl hsub ⟨by simp [upd, q3], by simp [upd, q7], by simp [upd, q8], by simp [upd, q9], by rw [← fin false (by simp [fndW, w2])]; simp [upd], by simp [upd], rfl⟩
    by_cases w3 : w.Line = k
    rotate_left
    · simp [q3, q7, q8, q9, q10, q11, hjl, putA, hF, w1, w2, w3, hk, hstep2]
      exact hN2 _ _ _ _ hjl hsub ⟨by simp [upd, q3], by simp [upd, q7], by simp [upd, q8], by simp [upd, q9], by rw [← fin false (by simp [fndW, w3, hk])]; simp [upd], by simp [upd], rfl⟩
    by_cases w4 : w.Version = r.Version
    rotate_left
    · simp [q3, q7, q8, q9, q10, q11, hjl, putA, hF, w1, w2, w3, w4, hk, hstep2]
      exact hN2 _ _ _ _ hjl hsub ⟨by simp [upd, q3], by simp [upd, q7], by simp [upd, q8], by simp [upd, q9], by rw [← fin false (by simp [fndW, w4])]; simp [upd], by simp [upd], rfl⟩
    simp [q3, q7, q8, q9, q10, q11, hjl, putA, hF, w1, w2, w3, w4, hk, hstep2]
    refine call_fn0 (sameInts_fn w.Words r.Words ww) .bool fun _ _ => ?_
    simp [q11, hstep2]
    exact hN2 _ _ _ _ hjl hsub ⟨by simp [upd, q3], by simp [upd, q7], by simp [upd, q8], by simp [upd, q9], by rw [← fin (decide (w.Words.list = r.Words.list)) (by simp [fndW, w1, w2, w3, w4, hk])]; simp [upd], by simp [upd], rfl⟩
end A
end Go.Proofs.Ytgiiipbpadgcgaa

/-
  Facts of the whole program that every row of the seat asks, each worked out once. No condition.
-/


namespace Go.Proofs.Ytgiiipbpadgcgaa.Closed
open Go.ChangeShapes Go.WideShapes Go.RowKit
theorem heard : Try.pinned.checked.prog.stopsHeard = true := by kernel_rfl
theorem enter : Try.pinned.checked.prog.mayEnter = true := by kernel_rfl
theorem make : Try.pinned.checked.prog.make = some Rows.fnExactDropHoldsRow.make := by kernel_rfl
theorem lifts : Try.pinned.checked.prog.liftsFinal = Rows.fnExactDropHoldsRow.lifted := by kernel_rfl
end Go.Proofs.Ytgiiipbpadgcgaa.Closed

/-
  FnNeverTorn: FnNeverTorn: a writer takes turns, and nobody sees a half-written line No condition.
-/



namespace Go.Proofs.Ytgiiipbpadgcgaa.fnNeverTorn
open Go.ChangeShapes Go.WideShapes Go.ChangeAt Go.RowKit
open Go.Proofs.Ytgiiipbpadgcgaa.A
set_option linter.unusedVariables false

theorem own : ownKnob Try.prog.godebug = none := by kernel_rfl

def types : List TypeId := [49, 5, 4]

set_option maxRecDepth 100000 in
theorem lifted (os : Os) (started : os.Started) (H : Type) (enc : TypeId × Value → H) :
    ReturnsInHanded {} Try.checked os 16 .any (Rows.fnNeverTornSpec.pre6 enc Try.prog Try.f16 Rows.fnNeverTornRow.domain false) (Rows.fnNeverTornSpec.post enc Try.prog Try.f16 false true false false) := by
  refine returnsInHanded_of_change (C := Try.checked) own started (by kernel_rfl) Try.func16
    (ChangeSpec.witness6 (enc := enc) (C := Try.checked) false ⟨#[], #[.slice none 0 0], []⟩ 8 (by kernel_rfl) (by kernel_rfl) (by kernel_rfl) (by kernel_rfl)) ?_
  intro W base args ds gs before hval0 hW hcnd _
  have hval : ∀ (j : Nat) t v, Try.f16.params[j]? = some t → args[j]? = some v → Value.okWide Try.prog W .any base t v := hval0
  refine law_post (rs := types) (bt := 4) (by kernel_rfl) (by kernel_rfl) (fun t ht => ?_) Try.underlying4 (by kernel_rfl) rfl (fun ds hds => ?_) hW hval fun l has => ?_
  · rw [Try.params16] at ht
    simp at ht
    first
      | (subst ht; exact ⟨by simp [types], by kernel_rfl, of_decide_eq_true (by kernel_rfl)⟩)
      | (rcases ht with rfl | rfl <;> exact ⟨by simp [types], by kernel_rfl, of_decide_eq_true (by kernel_rfl)⟩)
      | (rcases ht with rfl | rfl | rfl <;> exact ⟨by simp [types], by kernel_rfl, of_decide_eq_true (by kernel_rfl)⟩)
      | (rcases ht with rfl | rfl | rfl | rfl <;> exact ⟨by simp [types], by kernel_rfl, of_decide_eq_true (by kernel_rfl)⟩)
      | (rcases ht with rfl | rfl | rfl | rfl | rfl <;> exact ⟨by simp [types], by kernel_rfl, of_decide_eq_true (by kernel_rfl)⟩)
      | (rcases ht with rfl | rfl | rfl | rfl | rfl | rfl <;> exact ⟨by simp [types], by kernel_rfl, of_decide_eq_true (by kernel_rfl)⟩)
  · rw [← Array.length_toList, Try.params16] at hds
    match ds, hds with
    | [d0], _ => exact ⟨rfl, rfl, rfl⟩
  · rw [Try.params16] at has
    cases has with
    | cons h0 has =>
      cases has
      obtain ⟨n0, h0⟩ := h0
      rw [if_neg (by decide)] at h0
      obtain ⟨s0, rfl, k0⟩ := shByteS h0
      exact A.law_never k0 _

set_option maxHeartbeats 4000000 in
theorem facts : joinedFacts Try.pinned.checked.prog 16 Try.f16 Rows.fnNeverTornSpec Rows.fnNeverTornRow = true := by
  unfold joinedFacts
  rw [Closed.heard, Closed.enter, Closed.lifts, Closed.make]
  simp only [Bool.and_eq_true]
  iterate 6 (refine ⟨?_, by as_aux_lemma => kernel_rfl⟩)
  refine ⟨⟨?_, trivial⟩, trivial⟩
  iterate 23 (refine ⟨?_, by as_aux_lemma => kernel_rfl⟩)
  kernel_rfl
theorem named : Try.pinned.checked.prog.funcNamed Rows.fnNeverTornRow.func = some 16 := by kernel_rfl
theorem inst : Try.f16.isInstance Try.pinned.checked.prog Rows.fnNeverTornRow.origin Rows.fnNeverTornRow.targs := of_decide_eq_true (by kernel_rfl)
theorem wrap : Try.f16.isWrapper Try.pinned.checked.prog Rows.fnNeverTornRow.wrapper Rows.fnNeverTornRow.mainSum := by
  unfold Func.isWrapper
  first
    | (rw [if_pos (by decide +kernel)]; kernel_rfl)
    | (rw [if_neg (by decide +kernel)]; exact ⟨rfl, rfl⟩)

theorem over : Rows.fnNeverTornRow.holds Try.pinned (OpenSpec.ofChange Rows.fnNeverTornSpec) :=
  OpenClaim.holds_of_wide 16 Try.f16 rfl rfl rfl rfl rfl rfl rfl ⟨rfl, rfl, rfl, rfl, rfl⟩ rfl rfl rfl rfl rfl named Try.func16 facts inst wrap
    (fun os started H enc _ => lifted os started H enc)

/-- THE STATEMENT -/
theorem proved : Rows.FnNeverTornSaid :=
  over
#print axioms proved
end Go.Proofs.Ytgiiipbpadgcgaa.fnNeverTorn
