import Derived.Test.YtgiiipbpadgcgaaRows
import Derived.OpenShut
import Derived.Test.YtgiiipbpadgcgaaB09

/-
  Actors that are drawn; what DrawRunActors and DrawRecover hand back. No condition.
-/


namespace Go.Proofs.Ytgiiipbpadgcgaa
namespace A
set_option linter.unusedVariables false
set_option linter.unusedSimpArgs false
set_option maxRecDepth 100000

@[simp] theorem getW_midW {α : Type} (A T M : List α) (X W : α) (K : α → Prop) : getW (A ++ X :: (T ++ W :: M)) (A.length + (T.length + 1)) K = K W :=
  getW_of (by rw [List.getElem?_append_right (by omega), Nat.add_sub_cancel_left, List.getElem?_cons_succ, List.getElem?_append_right (Nat.le_refl _)]; simp) K
@[simp] theorem getW_midW1 {α : Type} (A T M : List α) (X W B : α) (K : α → Prop) : getW (A ++ X :: (T ++ W :: B :: M)) (A.length + (T.length + 1 + 1)) K = K B :=
  getW_of (by rw [List.getElem?_append_right (by omega), Nat.add_sub_cancel_left, List.getElem?_cons_succ, List.getElem?_append_right (by omega)]; simp) K
@[simp] theorem set_midW {α : Type} (A T M : List α) (X W Y : α) : (A ++ X :: (T ++ W :: M)).set (A.length + (T.length + 1)) Y = A ++ X :: (T ++ Y :: M) := by
  rw [List.set_append_right _ _ (by omega), Nat.add_sub_cancel_left, List.set_cons_succ, List.set_append_right _ _ (Nat.le_refl _), Nat.sub_self, List.set_cons_zero]

theorem tidyK {a : AObj} {l : List AObj} (h : AvRows [] a) (hl : ∀ o, o ∈ l → ∀ T, AvRows T o) : ∀ o, o ∈ a :: l → AvRows [] o := fun o ho => by
  rcases List.mem_cons.1 ho with rfl | ho
  · exact h
  · exact hl o ho []
theorem l34Cast_con {t i : Nat} {h : Int} {s : SL Int} (hi : i ≤ s.list.length) (hn : s.list.length ≤ 1048576) (c : Nat) :
    Con Try.prog 116 [.ptr 0 t 3 0 0] [cur t s i h] c fun r O _ => ActorsQ t s r O := by
  refine con_of c116 (by simp [F116]) ?_
  unfold F116
  simp
  refine call_num (l1Below_con hi hn (by omega) _) fun x i1 h1 c1 _ x0 x1 k1 => ?_
  rw [if_neg (by omega)] at x1
  obtain ⟨x, rfl⟩ := Int.eq_ofNat_of_zero_le x0
  have hw0 : IntKind.i64.wrap (2 + (x : Int)) = ((x + 2 : Nat) : Int) := by rw [wrap64 (by omega) (by omega)]; omega
  simp [hw0]
  refine loop_drop (x + 2) (fun j e H c' => e 0 = .ptr 0 t 3 0 0 ∧ e 4 = .int .i64 (x + 2 - j : Nat) ∧ ∃ (ta : Nat) (ks : List (Nat × TActor)) (i : Nat) (h : Int), e 3 = .ref 1 ta 7 j ∧ ks.length = j ∧ H = cur t s i h :: ⟨false, ta, 7, rowsY ks⟩ :: innA (ks.map fun p : Nat × TActor => p.2) ∧ i ≤ s.list.length ∧ ∀ x, x ∈ ks.map (fun p : Nat × TActor => p.2) → smA x) ⟨rfl, rfl, _, [], i1, h1, rfl, rfl, rfl, k1, by simp⟩ ?_
  intro j e H c' hj ⟨e0, e4, ta, ks, i2, h2, e3, hy, hH, k2, hb⟩ N hN
  subst hH
  have hrl : (rowsY ks).length = j := by simp [rowsY, hy]
  generalize hys : ks.map (fun p : Nat × TActor => p.2) = ys at hb
  have hyl : ys.length = j := by rw [← hys]; simpa using hy
  by_cases hd : x + 2 - j = 0
  · simp [e0, e3, e4, hd]
    refine fin_ren (List.Sublist.refl _) (.cons (.refl _ _) (.cons (renY ta ks) (.refl _ _))) (.refl _) ⟨ta, ys, i2, h2, by rw [hyl], by rw [← hys], k2, by omega, by omega, hb⟩
  have hjx : j < x + 2 := by omega
  have hdp : 0 < x + 2 - j := by omega
  have hdp' : (0 : Int) < ((x + 2 - j : Nat) : Int) := by omega
  have hdec : IntKind.i64.wrap (((x + 2 - j : Nat) : Int) - 1) = ((x + 2 - (j + 1) : Nat) : Int) := by rw [wrap64 (by omega) (by omega)]; omega
  have m3 : (j + 1) * 72 ≤ 140737488355328 := by omega
  have m4 : j + 1 ≤ mx := by unfold mx; omega
  generalize hq : x + 2 - j = q at e4 hdp hdp' hdec
  simp [e0, e3, e4, hdp, hdp']
  refine call_num (l1Below_con k2 hn (by omega) _) fun ln i3 h3 c3 _ y0 y1 k3 => ?_
  rw [if_neg (by omega)] at y1
  simp [e0, e3, e4]
  refine call_num (l1Below_con k3 hn (by omega) _) fun v i4 h4 c4 _ v0 v1 k4 => ?_
  rw [if_neg (by omega)] at v1
  have hw1 : IntKind.i64.wrap (1 + v) = 1 + v := wrap64 (by omega) (by omega)
  simp [e0, e3, e4, hw1]
  refine call_bool (l1Once_con (n := 2) k4 hn (by omega) _) fun w i5 h5 c5 _ k5 => ?_
  simp [e0, e3, e4, putA]
  refine call_num (l1Below_con k5 hn (by omega) _) fun z i6 h6 c6 _ z0 z1 k6 => ?_
  rw [if_neg (by omega)] at z1
  obtain ⟨z, rfl⟩ := Int.eq_ofNat_of_zero_le z0
  simp [e0, e3, e4]
  refine loop_drop z (fun m e H c' => e 0 = .ptr 0 t 3 0 0 ∧ e 3 = .ref 1 ta 7 j ∧ e 4 = .int .i64 q ∧ e 5 = .ptr ((innA ys).length + 2) c5 7 0 0 ∧ e 6 = .int .i64 (z - m : Nat) ∧ ∃ (T1 : List AObj) (wd : SL Int) (i : Nat) (h : Int), wd.list.length = m ∧ (w = false → wd.list = []) ∧ i ≤ s.list.length ∧
    H = cur t s i h :: ⟨false, ta, 7, rowsY ks⟩ :: (innA ys ++ (⟨false, c5, 7, [[.bool w, .int .i64 ln, .int .i64 (1 + v), wd.at_ ((innA ys).length + (T1.length + 1) + 2) 1, .int .i64 0, .int .i64 0, .int .i64 0]]⟩ :: (T1 ++ wd.wood 1 encI noInn)))) ⟨by simp [upd, e0], by simp [upd, e3], by simp [upd, e4], by simp [upd], by simp [upd], [], .nil, i6, h6, rfl, fun _ => rfl, k6, rfl⟩ ?_
  clear e0 e3 e4
  intro m e H c' hm ⟨e0, e3, e4, e5, e6, T1, wd, i7, h7, hwl, hwf, k7, hH⟩ N2 hN2
  subst hH
  have next : ∀ (e' : Env) (H' : List AObj) (cc : Nat), e' 0 = .ptr 0 t 3 0 0 → e' 4 = .int .i64 (x + 2 - (j + 1) : Nat) → e' 3 = .ref 1 cc 7 (j + 1) →
      (∃ M, H' = cur t s i7 h7 :: ⟨false, cc, 7, rowsY ks ++ [[.bool w, .int .i64 ln, .int .i64 (1 + v), wd.at_ ((innA ys).length + (T1.length + 1) + 2) 1, .int .i64 0, .int .i64 0, .int .i64 0]]⟩ :: (innA ys ++ M) ∧ (wd.wood 1 encI noInn).Sublist M) → ∀ c'', N e' H' c'' := fun e' H' cc f0 f4 f3 ⟨M, hM, hsub⟩ c'' => by
    subst hM
    refine hN _ _ (cur t s i7 h7 :: ⟨false, cc, 7, rowsY (ks ++ [((innA ys).length + (T1.length + 1) + 2, TActor.mk w ln (1 + v) wd 0 0 0)])⟩ :: innA ((ks ++ [((innA ys).length + (T1.length + 1) + 2, TActor.mk w ln (1 + v) wd 0 0 0)]).map fun p : Nat × TActor => p.2)) _ hjx ?_ ⟨f0, f4, cc, _, i7, h7, f3, by simp [hy], rfl, k7, fun y hyy => ?_⟩
    · rw [List.map_append, innA_app, hys]
      have e1 : rowsY (ks ++ [((innA ys).length + (T1.length + 1) + 2, TActor.mk w ln (1 + v) wd 0 0 0)]) = rowsY ks ++ [[.bool w, .int .i64 ln, .int .i64 (1 + v), wd.at_ ((innA ys).length + (T1.length + 1) + 2) 1, .int .i64 0, .int .i64 0, .int .i64 0]] := by simp [rowsY, encY]
      rw [e1]
      refine List.Sublist.cons_cons _ (List.Sublist.cons_cons _ (List.Sublist.append (List.Sublist.refl _) ?_))
      simpa [innA, TActor.inn] using hsub
    · rw [List.map_append, hys] at hyy
      rcases List.mem_append.1 hyy with hyy | hyy
      · exact hb y hyy
      · simp at hyy; subst hyy
        exact ⟨by simp; omega, by simp; omega, by simp; omega, by simp; omega, by simp; omega, rfl, rfl, rfl, hwf⟩
  cases w with
  | false =>
    generalize hT0 : T1 ++ wd.wood 1 encI noInn = T0
    simp [e0, e3, e4, e5, e6, putA, m3, m4, hrl, hdec]
    exact next _ _ _ (by simp [upd, e0]) (by simp [upd]) (by simp [upd]) ⟨_, rfl, by rw [← hT0]; exact (((List.sublist_append_right _ _).trans (List.sublist_append_left _ _)).cons _)⟩ _
  | true =>
    by_cases hz0 : z - m = 0
    · generalize hT0 : T1 ++ wd.wood 1 encI noInn = T0
      simp [e0, e3, e4, e5, e6, putA, m3, m4, hrl, hdec, hz0]
      exact next _ _ _ (by simp [upd, e0]) (by simp [upd]) (by simp [upd]) ⟨_, rfl, by rw [← hT0]; exact (((List.sublist_append_right _ _).trans (List.sublist_append_left _ _)).cons _)⟩ _
    have hmz : m < z := by omega
    have hzp : 0 < z - m := by omega
    have hzp' : (0 : Int) < ((z - m : Nat) : Int) := by omega
    have hzd : IntKind.i64.wrap (((z - m : Nat) : Int) - 1) = ((z - (m + 1) : Nat) : Int) := by rw [wrap64 (by omega) (by omega)]; omega
    generalize hqz : z - m = qz at e6 hzp hzp' hzd
    simp [e0, e3, e4, e5, e6, putA, hzp, hzp']
    refine call_num (l1Below_con k7 hn (by omega) _) fun u i8 h8 c8 _ u0 u1 k8 => ?_
    have m1 : (wd.list.length + 1) * 8 ≤ 140737488355328 := by omega
    have m2 : wd.list.length + 1 ≤ mx := by unfold mx; omega
    cases wd with
    | nil =>
      simp [e0, e3, e4, e5, e6, putA, SL.at_, wood_nilI, hzd]
      refine ⟨by unfold mx; omega, hN2 _ _ _ _ hmz (List.Sublist.refl _) ⟨by simp [upd, e0], by simp [upd, e3], by simp [upd, e4], by simp [upd, e5], by simp [upd], T1 ++ [⟨false, c8, 1, [[.int .i64 u]]⟩], .mk (c8 + 1) [u], i8, h8, ?_, by simp, k8, ?_⟩⟩
      · simp at hwl; simp [← hwl]
      · simp [SL.at_, flat_wood, encI]
    | mk tw l =>
      simp only [SL.list_mk] at m1 m2 hwl
      simp [e0, e3, e4, e5, e6, putA, SL.at_, flat_wood, hzd, m1, m2]
      refine hN2 _ _ (cur t s i8 h8 :: ⟨false, ta, 7, rowsY ks⟩ :: (innA ys ++ (⟨false, c5, 7, [[.bool true, .int .i64 ln, .int .i64 (1 + v), .ref ((innA ys).length + (T1.length + 1) + 2) (c8 + 1) 1 (l.length + 1), .int .i64 0, .int .i64 0, .int .i64 0]]⟩ :: (T1 ++ [⟨false, c8 + 1, 1, l.map encI ++ [[.int .i64 u]]⟩])))) _ hmz ?_ ⟨by simp [upd, e0], by simp [upd, e3], by simp [upd, e4], by simp [upd, e5], by simp [upd], T1, .mk (c8 + 1) (l ++ [u]), i8, h8, ?_, by simp, k8, ?_⟩
      · exact List.Sublist.cons_cons _ (List.Sublist.cons_cons _ (List.Sublist.append (List.Sublist.refl _) (List.Sublist.cons_cons _ (List.Sublist.append (List.Sublist.refl _) (sub_one _ _)))))
      · simp [hwl]
      · simp [SL.at_, flat_wood, encI]

/-- Lines, actors and an order, as0 trees. -/
def DrawnQ (b : SL TLine) (d : SL TActor) (o : SL Int) : Prop := 1 ≤ b.list.length ∧ b.list.length ≤ 3 ∧ (∀ x, x ∈ b.list → smL x) ∧ 2 ≤ d.list.length ∧ d.list.length ≤ 5 ∧ (∀ x, x ∈ d.list → smA x) ∧ o.list.length ≤ 160 ∧ ∀ x, x ∈ o.list → -6 ≤ x ∧ x ≤ 5
def DrawnO (r : AV) (O : List AObj) : Prop := ∃ (b : SL TLine) (d : SL TActor) (o : SL Int), r = .tup [b.ref 4, d.ref 7, o.ref 1] ∧ O = b.wood 4 TLine.encO TLine.inn ++ (d.wood 7 TActor.encO TActor.inn ++ o.wood 1 encI noInn) ∧ DrawnQ b d o
theorem drawnO_tr {f : Nat} {args : List AV} (h : ∀ c, Con Try.prog f args [] c fun r O _ => DrawnO r O) : Tr Try.prog f args fun _ r => ∃ (b : SL TLine) (d : SL TActor) (o : SL Int), r = .tup [b.av 4 TLine.enc, d.av 7 TActor.enc, o.av 1 encI] ∧ DrawnQ b d o :=
  tr_of h fun c r O c' _ ⟨b, d, o, h1, h2, h3⟩ ht => ⟨.tup [b.av 4 TLine.enc, d.av 7 TActor.enc, o.av 1 encI], by
    rw [h1]
    exact view_tup (.cons (view_line (by rw [h2]; exact fun _ h => List.mem_append_left _ h)) (.cons (view_actor (by rw [h2]; exact fun _ h => List.mem_append_right _ (List.mem_append_left _ h))) (.cons (view_flat (by rw [h2]; exact fun _ h => List.mem_append_right _ (List.mem_append_right _ h)) encI_flat.cells) .nil))), ⟨b, d, o, rfl, h3⟩, from_tup fun a ha => by
    have eT : ∀ X Y : List AObj, tags (X ++ Y) = tags X ++ tags Y := fun X Y => by simp [tags]
    rw [h2, eT, eT] at ht
    simp at ha
    rcases ha with rfl | rfl | rfl
    · exact line_from fun t h => ht t (List.mem_append_left _ h)
    · exact actor_from fun t h => ht t (List.mem_append_right _ (List.mem_append_left _ h))
    · exact flat_from encI_flat fun t h => ht t (List.mem_append_right _ (List.mem_append_right _ h))⟩

theorem drawRunO {s : SL Int} (hn : s.list.length ≤ 1048576) (c : Nat) : Con Try.prog 65 [s.av 1 encU] [] c fun r O _ => DrawnO r O := by
  refine con_of c65 (by simp [F65]) ?_
  unfold F65
  simp
  refine call_con (l1New_con hn _) fun r O c1 _ ⟨t, h, hr, hO⟩ _ _ => ?_
  subst hr; subst hO
  refine ⟨.ptr, fun o ho => by simp at ho; subst ho; exact cur_rows t s 0 h, ?_⟩
  simp
  refine call_con (l34Draw_con (by omega) hn _) fun r O c2 _ ⟨tl, l, i, h, hr, hO, hi, g1, g2, g3⟩ _ _ => ?_
  subst hr; subst hO
  refine ⟨.ref, tidyK (cur_rows t s i h) (tidyC (tidy_L tl l) (tidy_inns l)), ?_⟩
  simp
  refine call_curN (l34Cast_con hi hn _) fun r O c3 _ ⟨ta, cs, i2, h2, hr, hO, hi2, g4, g5, g6⟩ => ?_
  subst hr; subst hO
  refine ⟨i2, h2, _, .ref 0 ta 7 cs.length, rfl, .name, .ref, tidyK (cur_rows t s i2 h2) (tidyC (tidy_A ta cs) (tidy_innA cs)), ?_⟩
  simp
  refine call_curN (l34Order_con hi2 hn _) fun r O c4 _ ⟨to, os, i3, h3, hr, hO, hi3, g7, g8⟩ => ?_
  subst hr; subst hO
  refine ⟨i3, h3, _, .ref 0 to 1 os.length, rfl, .name, .ref, tidyK (cur_rows t s i3 h3) (tidyC (fun T => flat_free encI_flat 1 (.mk to os) _ (by rw [flat_wood]; simp) T) tidy0), ?_⟩
  simp
  refine fin_sub (Hk := (SL.mk tl l).wood 4 TLine.encO TLine.inn ++ ((SL.mk ta cs).wood 7 TActor.encO TActor.inn ++ (SL.mk to os).wood 1 encI noInn)) ?_ (v' := .tup [(SL.mk tl l).ref 4, (SL.mk ta cs).ref 7, (SL.mk to os).ref 1]) (view_tup (.cons .name (.cons .name (.cons .name .nil)))) ⟨.mk tl l, .mk ta cs, .mk to os, rfl, rfl, g1, g2, g3, g4, g5, g6, g7, g8⟩
  rw [wood_inns, wood_innA, flat_wood]
  simp
end A
end Go.Proofs.Ytgiiipbpadgcgaa

/-
  The code that a law of the second kind is given: a slice of bytes. No condition.
-/


namespace Go.Proofs.Ytgiiipbpadgcgaa
namespace A
set_option linter.unusedVariables false
theorem shByteS {n : Nat} {a : AV} (h : ShC Try.prog n 49 [a]) : ∃ s : SL Int, a = s.av 1 encU ∧ s.list.length ≤ mx := by
  obtain ⟨s, h1, h2, h3⟩ := sh_slc (P := Try.prog) (t := 49) (el := 5) (w := 1) (enc := encU) (ok := fun _ => True) (by kernel_rfl) (by kernel_rfl) (fun n row h => by obtain ⟨i, h1, _⟩ := sh_int1 (k := .u8) (P := Try.prog) (t := 5) (by kernel_rfl) h; exact ⟨i, h1, trivial⟩) h
  exact ⟨s, h1, h2⟩
end A
end Go.Proofs.Ytgiiipbpadgcgaa

/-
  FnNeverTorn answers true. No condition.
-/


namespace Go.Proofs.Ytgiiipbpadgcgaa
namespace A
set_option linter.unusedVariables false
set_option linter.unusedSimpArgs false
set_option maxRecDepth 100000

theorem sameInts_fn (a b : SL Int) (ha : a.list.length ≤ mx) : Fnc Try.prog 69 [a.av 1 encI, b.av 1 encI] (.bool (decide (a.list = b.list))) := by
  refine fn_of c69 (by simp [F69]) fun c => ?_
  unfold F69
  by_cases hl : a.list.length = b.list.length
  rotate_left
  · have hne : ¬ a.list = b.list := fun h => hl (by rw [h])
    have hl' : ¬ (a.list.length : Int) = b.list.length := fun h => hl (by omega)
    simp [hl', hne]
    exact fin_plain ⟨rfl, rfl⟩
  simp [hl]
  refine loop_drop b.list.length (fun i e H c' => e 0 = a.av 1 encI ∧ e 1 = b.av 1 encI ∧ e 5 = .int .i64 i ∧ a.list.take i = b.list.take i ∧ H = []) ⟨rfl, rfl, rfl, by simp, rfl⟩ ?_
  intro i e H c hi ⟨e0, e1, e5, ht, hH⟩ N hN
  subst hH
  by_cases h : i < b.list.length
  · have ga : a.list[i]? = some a.list[i] := List.getElem?_eq_getElem (by omega)
    have gb : b.list[i]? = some b.list[i] := List.getElem?_eq_getElem h
    have hta : a.list.take (i + 1) = a.list.take i ++ [a.list[i]] := List.take_succ_eq_append_getElem (by omega)
    have htb : b.list.take (i + 1) = b.list.take i ++ [b.list[i]] := List.take_succ_eq_append_getElem h
    have hne : a.list[i] ≠ b.list[i] → ¬ a.list = b.list := fun hn he => hn (by simp [he])
    generalize a.list[i] = x at ga hta hne
    generalize b.list[i] = y at gb htb hne
    simp [e0, e1, e5, hl, h]
    refine ⟨x, ga, ?_⟩
    simp [e0, e1, e5, hl, h]
    refine ⟨y, gb, ?_⟩
    by_cases hxy : x = y
    · simp [e0, e1, e5, hl, h, hxy]
      exact hN _ _ _ _ h (List.Sublist.refl _) ⟨by simp [upd, e0], by simp [upd, e1], by simp [upd]; exact step64 (by omega) h, by rw [hta, htb, ht, hxy], rfl⟩
    · simp [e0, e1, e5, hl, h, hxy]
      exact fin_plain ⟨by simp [hne hxy], rfl⟩
  · have hi' : i = b.list.length := by omega
    subst hi'
    simp [e0, e1, e5, hl]
    refine fin_plain ⟨?_, rfl⟩
    rw [← hl, List.take_length, hl, List.take_length] at ht
    simp [ht]

def fnd0 (l : List TLine) (r : TActor) : Bool := match l[r.Line.toNat]? with | some x => decide (x.Version = r.Version) && decide (x.Words.list = r.Words.list) | none => false
def fndW (r w : TActor) : Bool := w.Writer && decide (w.State = 2) && decide (w.Line = r.Line) && decide (w.Version = r.Version) && decide (w.Words.list = r.Words.list)
theorem nt_start {l : List TLine} {cs : List TActor} (hl : ∀ x, x ∈ l → smL x) (hc : cs.length ≤ 5) (ha : ∀ x, x ∈ cs → smA x) : NT 100 (l.map TLine.pl) 0 (l.map TLine.pl, cs.map TActor.pa) := by
  refine ⟨by simp; omega, fun x hx => ?_, fun a ha' => ?_, fun i a hia hw hs => ?_, fun i a hia hw hs => ?_, fun k x hk hp => .inr (.inl ⟨x, hk, rfl, rfl⟩), fun a ha' hw hs => ?_⟩
  · obtain ⟨y, hy, rfl⟩ := List.mem_map.1 hx
    obtain ⟨h1, h2, h3, h4, h5, h6, h7⟩ := hl y hy
    refine ⟨h1, ?_, ?_, ?_, h5, ?_, ?_, ?_⟩ <;> simp only [TLine.pl]
    · omega
    · omega
    · omega
    · omega
    · omega
    · rw [Int.tmod_eq_emod_of_nonneg h1]; omega
  · obtain ⟨y, hy, rfl⟩ := List.mem_map.1 ha'
    obtain ⟨h1, h2, h3, h4, h5, h6, h7, h8, h9⟩ := ha y hy
    exact ⟨h3, by simp only [TActor.pa]; omega, by simp only [TActor.pa]; omega, fun _ => ⟨h7, h9⟩⟩
  all_goals
    exfalso
    first
      | (rw [List.getElem?_map, Option.map_eq_some_iff] at hia
         obtain ⟨y, hy, rfl⟩ := hia
         have := (ha y (List.mem_of_getElem? hy)).2.2.2.2.2.1
         simp only [TActor.pa] at hs
         omega)
      | (obtain ⟨y, hy, rfl⟩ := List.mem_map.1 ha'
         have := (ha y hy).2.2.2.2.2.1
         simp only [TActor.pa] at hs
         omega)
theorem nt_lines {l0 : List PL} {n : Nat} {p : List PL × List PA} {l : List TLine} (h : NT 100 l0 n p) (hn : n ≤ 1000000) (hl : l.map TLine.pl = p.1) (hlen : l.length ≤ 8) : areLines l = true := by
  unfold areLines
  simp only [Bool.and_eq_true, List.all_eq_true, decide_eq_true_eq]
  refine ⟨fun x hx => ?_, hlen⟩
  obtain ⟨h1, h2, h3, h4, h5, h6, h7, h8⟩ := h.ok x.pl (by rw [← hl]; exact List.mem_map.2 ⟨x, hx, rfl⟩)
  simp only [TLine.pl] at h1 h2 h3 h4 h5 h6 h7 h8
  unfold lineOk inR
  simp only [Bool.and_eq_true, decide_eq_true_eq, beq_iff_eq, decide_eq_decide]
  exact ⟨⟨⟨⟨⟨h1, by omega⟩, h3, h4⟩, h5, h6⟩, h7⟩, h8⟩
theorem nt_found {l : List TLine} {n : Nat} {p : List PL × List PA} {cs : List TActor} (h : NT 100 (l.map TLine.pl) n p) (hg : Gd n p) (hc : cs.map TActor.pa = p.2) {r : TActor} (hr : r ∈ cs) (hw : r.Writer = false) (hs : r.State = 2) :
    (fnd0 l r || cs.any (fndW r)) = true := by
  have hr' : r.pa ∈ p.2 := by rw [← hc]; exact List.mem_map.2 ⟨r, hr, rfl⟩
  rcases h.dn r.pa hr' hw hs with ⟨x, hx, hv, hws⟩ | ⟨w, hwm, h1, h2, h3, h4, h5⟩
  · rw [List.getElem?_map, Option.map_eq_some_iff] at hx
    obtain ⟨y, hy, rfl⟩ := hx
    have hy' : l[r.Line.toNat]? = some y := hy
    simp only [TLine.pl, TActor.pa] at hv hws
    simp [fnd0, hy', hv, hws]
  · rw [← hc] at hwm
    obtain ⟨y, hy, rfl⟩ := List.mem_map.1 hwm
    have l1 : 0 ≤ y.Line := (hg.a y.pa (by rw [← hc]; exact List.mem_map.2 ⟨y, hy, rfl⟩)).l0
    have l2 : 0 ≤ r.Line := (hg.a r.pa hr').l0
    simp only [TActor.pa] at h1 h2 h3 h4 h5
    have h3' : y.Line = r.Line := by omega
    rw [Bool.or_eq_true]
    refine .inr (List.any_eq_true.2 ⟨y, hy, ?_⟩)
    simp [fndW, h1, h2, h3', h4, h5]
/-- What is handed back, seen as0 trees. -/
theorem run_trN {f : Nat} {args : List AV} {p : List PL × List PA} (h : ∀ c, Con Try.prog f args [] c fun r O _ => RunQ p r O) :
    Tr Try.prog f args fun _ r => ∃ (b : SL TLine) (e : SL TActor), r = .tup [b.av 4 TLine.enc, e.av 7 TActor.enc] ∧ (b.list.map TLine.pl, e.list.map TActor.pa) = p :=
  tr_of h fun c r O c' _ ⟨b, e, h1, h2, h3⟩ ht => ⟨.tup [b.av 4 TLine.enc, e.av 7 TActor.enc], by
    rw [h1]
    exact view_tup (.cons (view_line (by rw [h2]; exact fun _ h => List.mem_append_left _ h)) (.cons (view_actor (by rw [h2]; exact fun _ h => List.mem_append_right _ h)) .nil)), ⟨b, e, rfl, h3⟩, from_tup fun a ha => by
    have eT : ∀ X Y : List AObj, tags (X ++ Y) = tags X ++ tags Y := fun X Y => by simp [tags]
    rw [h2, eT] at ht
    simp at ha
    rcases ha with rfl | rfl
    · exact line_from fun t h => ht t (List.mem_append_left _ h)
    · exact actor_from fun t h => ht t (List.mem_append_right _ h)⟩

theorem bigN_fn (s : SL Int) : Fnc Try.prog 41 [s.av 1 encU] (.bool (decide (1048576 < (s.list.length : Int)))) := by
  refine fn_of c41 (by simp [F41]) fun c => ?_
  unfold F41
  simp
  exact fin_plain ⟨rfl, rfl⟩
theorem any_step {α : Type} (p : α → Bool) (l : List α) {i : Nat} (h : i < l.length) : (l.take (i + 1)).any p = ((l.take i).any p || p l[i]) := by
  rw [List.take_succ_eq_append_getElem h, List.any_append]; simp

theorem law_never {s : SL Int} (hs : s.list.length ≤ mx) (c : Nat) : Con Try.prog 16 [s.av 1 encU] [] c fun r H' _ => r = .bool true ∧ H' = [] := by
  refine con_of c16 (by simp [F16]) ?_
  unfold F16
  simp
  refine call_fn0 (bigN_fn s) .bool fun _ _ => ?_
  by_cases hbig : (1048576 : Int) < s.list.length
  · simp [hbig]
    exact fin_plain ⟨rfl, rfl⟩
  simp [hbig]
  refine call_tree0 (drawnO_tr (drawRunO (by omega))) fun r c1 _ ⟨b, d, o, hr, g1, g2, g3, g4, g5, g6, g7, g8⟩ _ => ?_
  subst hr
  simp
  refine call_tree0 (run_trN (impl_run (s := b) (d := d) (sch := o) (by omega) (fun x hx => by have := (g3 x hx).2.2.2.2.2.2; omega) (by omega) (fun x hx => by have := (g6 x hx).2.2.2.2.1; omega) (by omega) (fun k hk => by have := g8 k hk; omega))) fun r c2 _ ⟨l, e, hr, hrun⟩ _ => ?_
  subst hr
  simp
  have hlens : l.list.length = b.list.length ∧ e.list.length = d.list.length := by
    have h1 := congrArg (fun p : List PL × List PA => (p.1.length, p.2.length)) hrun
    simp only [List.length_map] at h1
    have h2 : (runAll b.list d.list o.list).1.length = b.list.length ∧ (runAll b.list d.list o.list).2.length = d.list.length := by
      unfold runAll
      split
      · have := run_len (b.list.map TLine.pl, d.list.map TActor.pa) o.list
        simpa using this
      · simp
    simp only [Prod.mk.injEq] at h1
    omega
  refine call_fn0 (spec_areLines (by unfold mx; omega)) .bool fun _ _ => ?_
  cases h1 : areLines b.list
  · simp [hlens]
    exact fin_plain ⟨rfl, rfl⟩
  simp
  refine call_fn0 (spec_areActors (by unfold mx; omega)) .bool fun _ _ => ?_
  cases h2 : areActors d.list
  · simp [hlens]
    exact fin_plain ⟨rfl, rfl⟩
  simp
  have hall : runAll b.list d.list o.list = runA (b.list.map TLine.pl, d.list.map TActor.pa) o.list := by rw [runAll, h1, h2]; simp; intro hd; rw [hd] at g4; simp at g4
  rw [hall] at hrun
  have nt := NT.run o.list o.list.length (Nat.le_refl _) (nt_start g3 g5 g6)
  have hg := Gd.run (gd_start h1 h2) o.list o.list.length (Nat.le_refl _)
  rw [List.take_length, ← hrun] at nt hg
  have h3 := nt_lines nt (by omega) rfl (by omega)
  refine call_fn0 (spec_areLines (by unfold mx; omega)) .bool fun _ _ => ?_
  simp [h3, hlens]
  have hgd : ∀ w, w ∈ e.list → 0 ≤ w.Line := fun w hw => (hg.a w.pa (List.mem_map.2 ⟨w, hw, rfl⟩)).l0
  have found : ∀ r, r ∈ e.list → r.Writer = false → r.State = 2 → (fnd0 b.list r || e.list.any (fndW r)) = true := fun r hr hw hst => nt_found nt hg rfl hr hw hst
  have wds : ∀ x, x ∈ b.list → x.Words.list.length ≤ mx := fun x hx => by have := (g3 x hx).2.2.2.2.2.2; unfold mx; omega
  have wde : ∀ x, x ∈ e.list → x.Words.list.length ≤ mx := fun x hx => by have := (nt.ao x.pa (List.mem_map.2 ⟨x, hx, rfl⟩)).w; simp only [TActor.pa] at this; unfold mx; omega
  refine loop_drop e.list.length (fun i ev H c' => ev 3 = b.av 4 TLine.enc ∧ ev 7 = e.av 7 TActor.enc ∧ ev 8 = .int .i64 i ∧ H = []) ⟨rfl, rfl, rfl, rfl⟩ ?_
  intro i ev H c' hi ⟨e3, e7, e8, hH⟩ N hN
  subst hH
  by_cases h : i < e.list.length
  rotate_left
  · have : i = e.list.length := by omega
    subst this
    simp [e3, e7, e8]
    exact fin_plain ⟨rfl, rfl⟩
  have hr : e.list[i]? = some e.list[i] := List.getElem?_eq_getElem h
  have hrm := List.getElem_mem h
  generalize e.list[i] = r at hr hrm
  have hstep : IntKind.i64.wrap ((i : Int) + 1) = ((i + 1 : Nat) : Int) := by rw [step64 (by unfold mx; omega) h]; rfl
  simp [e3, e7, e8, h, putA]
  refine ⟨r, hr, ?_⟩
  by_cases hw : r.Writer = true
  · simp [e3, e7, e8, h, hw, putA, hstep]
    exact hN _ _ _ _ h (List.nil_sublist _) ⟨by simp [upd, e3], by simp [upd, e7], by simp [upd], rfl⟩
  have hw : r.Writer = false := by simpa using hw
  by_cases hst : r.State = 2
  rotate_left
  · simp [e3, e7, e8, h, hw, hst, putA, hstep]
    exact hN _ _ _ _ h (List.nil_sublist _) ⟨by simp [upd, e3], by simp [upd, e7], by simp [upd], rfl⟩
  have hfd := found r hrm hw hst
  have hrl := hgd r hrm
  obtain ⟨k, hk⟩ := Int.eq_ofNat_of_zero_le hrl
  simp [e3, e7, e8, h, hw, hst, putA, hk]
  have wr : r.Words.list.length ≤ mx := wde r hrm
  by_cases hk2 : k < b.list.length
  · have gx : b.list[k]? = some b.list[k] := List.getElem?_eq_getElem hk2
    have wx := wds _ (List.getElem_mem hk2)
    generalize b.list[k] = x at gx wx
    by_cases hv : x.Version = r.Version
    · simp [e3, e7, e8, h, hw, hst, putA, hk, hk2]
      refine ⟨x, gx, ?_⟩
      simp [e3, e7, e8, h, hw, hst, putA, hk, hk2, hv]
      refine ⟨x, gx, ?_⟩
      simp [e3, e7, e8, h, hw, hst, putA, hk, hk2, hv]
      refine callF_fn0 (sameInts_fn x.Words r.Words wx) .bool fun _ _ => ?_
      have hf : fnd0 b.list r = decide (x.Words.list = r.Words.list) := by simp [fnd0, hk, gx, hv]
      simp
      refine loop_drop e.list.length (fun j ev2 H c2' => ev2 3 = b.av 4 TLine.enc ∧ ev2 7 = e.av 7 TActor.enc ∧ ev2 8 = .int .i64 i ∧ ev2 9 = .ptr 0 c' 7 0 0 ∧ ev2 10 = .bool (fnd0 b.list r || (e.list.take j).any (fndW r)) ∧ ev2 11 = .int .i64 j ∧ H = [⟨false, c', 7, [r.enc]⟩]) ⟨by simp [upd, e3], by simp [upd, e7], by simp [upd, e8], by simp [upd], by simp [upd, hf], by simp [upd], rfl⟩ ?_
      intro j ev2 H c3 hj ⟨q3, q7, q8, q9, q10, q11, hH⟩ N2 hN2
      subst hH
      by_cases hjl : j < e.list.length
      rotate_left
      · have : j = e.list.length := by omega
        subst this
        rw [List.take_length, hfd] at q10
        simp [q3, q7, q8, q9, q10, q11, hstep]
        exact hN _ _ _ _ h (List.nil_sublist _) ⟨by simp [upd, q3], by simp [upd, q7], by simp [upd], rfl⟩
      have gw : e.list[j]? = some e.list[j] := List.getElem?_eq_getElem hjl
      have ww := wde _ (List.getElem_mem hjl)
      have hany := any_step (fndW r) e.list hjl
      generalize e.list[j] = w at gw ww hany
      have hstep2 : IntKind.i64.wrap ((j : Int) + 1) = ((j + 1 : Nat) : Int) := by rw [step64 (by unfold mx; omega) hjl]; rfl
      have hsub : List.Sublist [(⟨false, c', 7, [r.enc]⟩ : AObj)] [⟨false, c', 7, [r.enc]⟩, ⟨false, c3, 7, [w.enc]⟩] := List.Sublist.cons_cons _ (List.nil_sublist _)
      simp [q3, q7, q8, q9, q10, q11, hjl, putA]
      refine ⟨w, gw, ?_⟩
      cases hF : (fnd0 b.list r || (e.list.take j).any (fndW r))
      rotate_left
      · simp [q3, q7, q8, q9, q10, q11, hjl, putA, hF, hstep2]
        exact hN2 _ _ _ _ hjl hsub ⟨by simp [upd, q3], by simp [upd, q7], by simp [upd, q8], by simp [upd, q9], by rw [hany, ← Bool.or_assoc, hF]; simp [upd], by simp [upd], rfl⟩
      have fin : ∀ v, fndW r w = v → v = (fnd0 b.list r || (e.list.take (j + 1)).any (fndW r)) := fun v hv => by rw [hany, ← Bool.or_assoc, hF]; simp [hv]
      rw [hF] at q10
      by_cases w1 : w.Writer = true
      rotate_left
      · simp [q3, q7, q8, q9, q10, q11, hjl, putA, hF, w1, hstep2]
        exact hN2 _ _ _ _ hjl hsub ⟨by simp [upd, q3], by simp [upd, q7], by simp [upd, q8], by simp [upd, q9], by rw [← fin false (by simp [fndW, w1])]; simp [upd], by simp [upd], rfl⟩
      by_cases w2 : w.State = 2
      rotate_left
      · simp [q3, q7, q8, q9, q10, q11, hjl, putA, hF, w1, w2, hstep2]
        exact hN2 _ _ _ _ hjl hsub ⟨by simp [upd, q3], by simp [upd, q7], by simp [upd, q8], by simp [upd, q9], by rw [← fin false (by simp [fndW, w2])]; simp [upd], by simp [upd], rfl⟩
      by_cases w3 : w.Line = k
      rotate_left
      · simp [q3, q7, q8, q9, q10, q11, hjl, putA, hF, w1, w2, w3, hk, hstep2]
        exact hN2 _ _ _ _ hjl hsub ⟨by simp [upd, q3], by simp [upd, q7], by simp [upd, q8], by simp [upd, q9], by rw [← fin false (by simp [fndW, w3, hk])]; simp [upd], by simp [upd], rfl⟩
      by_cases w4 : w.Version = r.Version
      rotate_left
      · simp [q3, q7, q8, q9, q10, q11, hjl, putA, hF, w1, w2, w3, w4, hk, hstep2]
        exact hN2 _ _ _ _ hjl hsub ⟨by simp [upd, q3], by simp [upd, q7], by simp [upd, q8], by simp [upd, q9], by rw [← fin false (by simp [fndW, w4])]; simp [upd], by simp [upd], rfl⟩
      simp [q3, q7, q8, q9, q10, q11, hjl, putA, hF, w1, w2, w3, w4, hk, hstep2]
      refine call_fn0 (sameInts_fn w.Words r.Words ww) .bool fun _ _ => ?_
      simp [q11, hstep2]
      exact hN2 _ _ _ _ hjl hsub ⟨by simp [upd, q3], by simp [upd, q7], by simp [upd, q8], by simp [upd, q9], by rw [← fin (decide (w.Words.list = r.Words.list)) (by simp [fndW, w1, w2, w3, w4, hk])]; simp [upd], by simp [upd], rfl⟩
    · simp [e3, e7, e8, h, hw, hst, putA, hk, hk2]
      refine ⟨x, gx, ?_⟩
      have hf : fnd0 b.list r = false := by simp [fnd0, hk, gx, hv]
      simp [e3, e7, e8, h, hw, hst, putA, hk, hk2, hv]
      refine loop_drop e.list.length (fun j ev2 H c2' => ev2 3 = b.av 4 TLine.enc ∧ ev2 7 = e.av 7 TActor.enc ∧ ev2 8 = .int .i64 i ∧ ev2 9 = .ptr 0 c' 7 0 0 ∧ ev2 10 = .bool (fnd0 b.list r || (e.list.take j).any (fndW r)) ∧ ev2 11 = .int .i64 j ∧ H = [⟨false, c', 7, [r.enc]⟩]) ⟨by simp [upd, e3], by simp [upd, e7], by simp [upd, e8], by simp [upd], by simp [upd, hf], by simp [upd], rfl⟩ ?_
      intro j ev2 H c3 hj ⟨q3, q7, q8, q9, q10, q11, hH⟩ N2 hN2
      subst hH
      by_cases hjl : j < e.list.length
      rotate_left
      · have : j = e.list.length := by omega
        subst this
        rw [List.take_length, hfd] at q10
        simp [q3, q7, q8, q9, q10, q11, hstep]
        exact hN _ _ _ _ h (List.nil_sublist _) ⟨by simp [upd, q3], by simp [upd, q7], by simp [upd], rfl⟩
      have gw : e.list[j]? = some e.list[j] := List.getElem?_eq_getElem hjl
      have ww := wde _ (List.getElem_mem hjl)
      have hany := any_step (fndW r) e.list hjl
      generalize e.list[j] = w at gw ww hany
      have hstep2 : IntKind.i64.wrap ((j : Int) + 1) = ((j + 1 : Nat) : Int) := by rw [step64 (by unfold mx; omega) hjl]; rfl
      have hsub : List.Sublist [(⟨false, c', 7, [r.enc]⟩ : AObj)] [⟨false, c', 7, [r.enc]⟩, ⟨false, c3, 7, [w.enc]⟩] := List.Sublist.cons_cons _ (List.nil_sublist _)
      simp [q3, q7, q8, q9, q10, q11, hjl, putA]
      refine ⟨w, gw, ?_⟩
      cases hF : (fnd0 b.list r || (e.list.take j).any (fndW r))
      rotate_left
      · simp [q3, q7, q8, q9, q10, q11, hjl, putA, hF, hstep2]
        exact hN2 _ _ _ _ hjl hsub ⟨by simp [upd, q3], by simp [upd, q7], by simp [upd, q8], by simp [upd, q9], by rw [hany, ← Bool.or_assoc, hF]; simp [upd], by simp [upd], rfl⟩
      have fin : ∀ v, fndW r w = v → v = (fnd0 b.list r || (e.list.take (j + 1)).any (fndW r)) := fun v hv => by rw [hany, ← Bool.or_assoc, hF]; simp [hv]
      rw [hF] at q10
      by_cases w1 : w.Writer = true
      rotate_left
      · simp [q3, q7, q8, q9, q10, q11, hjl, putA, hF, w1, hstep2]
        exact hN2 _ _ _ _ hjl hsub ⟨by simp [upd, q3], by simp [upd, q7], by simp [upd, q8], by simp [upd, q9], by rw [← fin false (by simp [fndW, w1])]; simp [upd], by simp [upd], rfl⟩
      by_cases w2 : w.State = 2
      rotate_left
      · simp [q3, q7, q8, q9, q10, q11, hjl, putA, hF, w1, w2, hstep2]
        exact hN2 _ _ _ _ hjl hsub ⟨by simp [upd, q3], by simp [upd, q7], by simp [upd, q8], by simp [upd, q9], by rw [← fin false (by simp [fndW, w2])]; simp [upd], by simp [upd], rfl⟩
      by_cases w3 : w.Line = k
      rotate_left
      · simp [q3, q7, q8, q9, q10, q11, hjl, putA, hF, w1, w2, w3, hk, hstep2]
        exact hN2 _ _ _ _ hjl hsub ⟨by simp [upd, q3], by simp [upd, q7], by simp [upd, q8], by simp [upd, q9], by rw [← fin false (by simp [fndW, w3, hk])]; simp [upd], by simp [upd], rfl⟩
      by_cases w4 : w.Version = r.Version
      rotate_left
      · simp [q3, q7, q8, q9, q10, q11, hjl, putA, hF, w1, w2, w3, w4, hk, hstep2]
        exact hN2 _ _ _ _ hjl hsub ⟨by simp [upd, q3], by simp [upd, q7], by simp [upd, q8], by simp [upd, q9], by rw [← fin false (by simp [fndW, w4])]; simp [upd], by simp [upd], rfl⟩
      simp [q3, q7, q8, q9, q10, q11, hjl, putA, hF, w1, w2, w3, w4, hk, hstep2]
      refine call_fn0 (sameInts_fn w.Words r.Words ww) .bool fun _ _ => ?_
      simp [q11, hstep2]
      exact hN2 _ _ _ _ hjl hsub ⟨by simp [upd, q3], by simp [upd, q7], by simp [upd, q8], by simp [upd, q9], by rw [← fin (decide (w.Words.list = r.Words.list)) (by simp [fndW, w1, w2, w3, w4, hk])]; simp [upd], by simp [upd], rfl⟩
  · have hf : fnd0 b.list r = false := by simp [fnd0, hk, List.getElem?_eq_none (Nat.le_of_not_lt hk2)]
    simp [e3, e7, e8, h, hw, hst, putA, hk, hk2]
    refine loop_drop e.list.length (fun j ev2 H c2' => ev2 3 = b.av 4 TLine.enc ∧ ev2 7 = e.av 7 TActor.enc ∧ ev2 8 = .int .i64 i ∧ ev2 9 = .ptr 0 c' 7 0 0 ∧ ev2 10 = .bool (fnd0 b.list r || (e.list.take j).any (fndW r)) ∧ ev2 11 = .int .i64 j ∧ H = [⟨false, c', 7, [r.enc]⟩]) ⟨by simp [upd, e3], by simp [upd, e7], by simp [upd, e8], by simp [upd], by simp [upd, hf], by simp [upd], rfl⟩ ?_
    intro j ev2 H c3 hj ⟨q3, q7, q8, q9, q10, q11, hH⟩ N2 hN2
    subst hH
    by_cases hjl : j < e.list.length
    rotate_left
    · have : j = e.list.length := by omega
      subst this
      rw [List.take_length, hfd] at q10
      simp [q3, q7, q8, q9, q10, q11, hstep]
      exact hN _ _ _ _ h (List.nil_sublist _) ⟨by simp [upd, q3], by simp [upd, q7], by simp [upd], rfl⟩
    have gw : e.list[j]? = some e.list[j] := List.getElem?_eq_getElem hjl
    have ww := wde _ (List.getElem_mem hjl)
    have hany := any_step (fndW r) e.list hjl
    generalize e.list[j] = w at gw ww hany
    have hstep2 : IntKind.i64.wrap ((j : Int) + 1) = ((j + 1 : Nat) : Int) := by rw [step64 (by unfold mx; omega) hjl]; rfl
    have hsub : List.Sublist [(⟨false, c', 7, [r.enc]⟩ : AObj)] [⟨false, c', 7, [r.enc]⟩, ⟨false, c3, 7, [w.enc]⟩] := List.Sublist.cons_cons _ (List.nil_sublist _)
    simp [q3, q7, q8, q9, q10, q11, hjl, putA]
    refine ⟨w, gw, ?_⟩
    cases hF : (fnd0 b.list r || (e.list.take j).any (fndW r))
    rotate_left
    · simp [q3, q7, q8, q9, q10, q11, hjl, putA, hF, hstep2]
      exact hN2 _ _ _ _ hjl hsub ⟨by simp [upd, q3], by simp [upd, q7], by simp [upd, q8], by simp [upd, q9], by rw [hany, ← Bool.or_assoc, hF]; simp [upd], by simp [upd], rfl⟩
    have fin : ∀ v, fndW r w = v → v = (fnd0 b.list r || (e.list.take (j + 1)).any (fndW r)) := fun v hv => by rw [hany, ← Bool.or_assoc, hF]; simp [hv]
    rw [hF] at q10
    by_cases w1 : w.Writer = true
    rotate_left
    · simp [q3, q7, q8, q9, q10, q11, hjl, putA, hF, w1, hstep2]
      exact hN2 _ _ _ _ hjl hsub ⟨by simp [upd, q3], by simp [upd, q7], by simp [upd, q8], by simp [upd, q9], by rw [← fin false (by simp [fndW, w1])]; simp [upd], by simp [upd], rfl⟩
    by_cases w2 : w.State = 2
    rotate_left
    · simp [q3, q7, q8, q9, q10, q11, hjl, putA, hF, w1, w2, hstep2]
      exact hN2 _ _ _ _ hjl hsub ⟨by simp [upd, q3], by simp [upd, q7], by simp [upd, q8], by simp [upd, q9], by rw [← fin false (by simp [fndW, w2])]; simp [upd], by simp [upd], rfl⟩
    by_cases w3 : w.Line = k
    rotate_left
    · simp [q3, q7, q8, q9, q10, q11, hjl, putA, hF, w1, w2, w3, hk, hstep2]
      exact hN2 _ _ _ _ hjl hsub ⟨by simp [upd, q3], by simp [upd, q7], by simp [upd, q8], by simp [upd, q9], by rw [← fin false (by simp [fndW, w3, hk])]; simp [upd], by simp [upd], rfl⟩
    by_cases w4 : w.Version = r.Version
    rotate_left
    · simp [q3, q7, q8, q9, q10, q11, hjl, putA, hF, w1, w2, w3, w4, hk, hstep2]
      exact hN2 _ _ _ _ hjl hsub ⟨by simp [upd, q3], by simp [upd, q7], by simp [upd, q8], by simp [upd, q9], by rw [← fin false (by simp [fndW, w4])]; simp [upd], by simp [upd], rfl⟩
    simp [q3, q7, q8, q9, q10, q11, hjl, putA, hF, w1, w2, w3, w4, hk, hstep2]
    refine call_fn0 (sameInts_fn w.Words r.Words ww) .bool fun _ _ => ?_
    simp [q11, hstep2]
    exact hN2 _ _ _ _ hjl hsub ⟨by simp [upd, q3], by simp [upd, q7], by simp [upd, q8], by simp [upd, q9], by rw [← fin (decide (w.Words.list = r.Words.list)) (by simp [fndW, w1, w2, w3, w4, hk])]; simp [upd], by simp [upd], rfl⟩
end A
end Go.Proofs.Ytgiiipbpadgcgaa

/-
  What DrawRecover and DrawWriteLine hand back: lines that actors have run over. No condition.
-/


namespace Go.Proofs.Ytgiiipbpadgcgaa
namespace A
set_option linter.unusedVariables false
set_option linter.unusedSimpArgs false
set_option maxRecDepth 100000

def nums : List Int := [0, 1, 127, 128, 999999999, 1000000000, 1000000001, 2147483647, 1000000000000]
theorem l1Num_con {t i : Nat} {h : Int} {s : SL Int} (hi : i ≤ s.list.length) (hn : s.list.length ≤ 1048576) (c : Nat) : Con Try.prog 172 [.ptr 0 t 3 0 0] [cur t s i h] c fun r O _ => AnyQ t s r O := by
  refine con_of c172 (by simp [F172]) ?_
  unfold F172
  simp
  refine call_num (l1Below_con hi hn (by omega) _) fun x i1 h1 c1 _ x0 x1 k1 => ?_
  by_cases hx0 : x = 0
  · simp [hx0]
    refine call_num (l1Below_con k1 hn (by omega) _) fun y i2 h2 c2 _ y0 y1 k2 => ?_
    simp
    exact fin_all ⟨y, i2, h2, rfl, k2, rfl⟩
  by_cases hx1 : x = 1
  · simp [hx0, hx1, putA]
    refine call_int nums (C := []) k1 hn (by decide) (by decide) fun y i2 h2 c2 _ hy k2 => ?_
    simp
    exact fin_sub (Hk := [cur t s i2 h2]) ((List.nil_sublist _).cons_cons _) (.refl _) ⟨y, i2, h2, rfl, k2, rfl⟩
  by_cases hx2 : x = 2
  · simp [hx0, hx1, hx2]
    refine call_num (l1Below_con k1 hn (by omega) _) fun y i2 h2 c2 _ y0 y1 k2 => ?_
    simp
    refine call_num (l1Below_con k2 hn (by omega) _) fun z i3 h3 c3 _ z0 z1 k3 => ?_
    simp
    exact fin_all ⟨_, i3, h3, rfl, k3, rfl⟩
  · simp [hx0, hx1, hx2]
    refine call_num (l1Below_con k1 hn (by omega) _) fun y i2 h2 c2 _ y0 y1 k2 => ?_
    simp
    exact fin_all ⟨y, i2, h2, rfl, k2, rfl⟩
theorem l1One_con {t i : Nat} {h : Int} {s : SL Int} (hi : i ≤ s.list.length) (hn : s.list.length ≤ 1048576) (c : Nat) : Con Try.prog 153 [.ptr 0 t 3 0 0] [cur t s i h] c fun r O _ => AnyQ t s r O := by
  refine con_of c153 (by simp [F153]) ?_
  unfold F153
  simp
  refine call_num (l1Below_con hi hn (by omega) _) fun x i1 h1 c1 _ x0 x1 k1 => ?_
  by_cases hx0 : x = 0
  · simp [hx0]
    refine call_any (l1Odd_con k1 hn _) fun y i2 h2 c2 _ k2 => ?_
    simp
    exact fin_all ⟨y, i2, h2, rfl, k2, rfl⟩
  by_cases hx1 : x = 1
  · simp [hx0, hx1]
    refine call_any (l1Num_con k1 hn _) fun y i2 h2 c2 _ k2 => ?_
    simp
    exact fin_all ⟨_, i2, h2, rfl, k2, rfl⟩
  · simp [hx0, hx1]
    refine call_any (l1Num_con k1 hn _) fun y i2 h2 c2 _ k2 => ?_
    simp
    exact fin_all ⟨y, i2, h2, rfl, k2, rfl⟩

def IntsQ (t : Nat) (s : SL Int) (m : Nat) (r : AV) (O : List AObj) : Prop := ∃ (to : Nat) (l : List Int) (i' : Nat) (h' : Int), r = .ref 1 to 1 l.length ∧ O = [cur t s i' h', ⟨false, to, 1, l.map encI⟩] ∧ i' ≤ s.list.length ∧ l.length ≤ m
theorem l3Ints_con {t i : Nat} {h : Int} {s : SL Int} {m : Nat} (hm : m ≤ 100) (hi : i ≤ s.list.length) (hn : s.list.length ≤ 1048576) (c : Nat) :
    Con Try.prog 122 [.ptr 0 t 3 0 0, .int .i64 m] [cur t s i h] c fun r O _ => IntsQ t s m r O := by
  refine con_of c122 (by simp [F122]) ?_
  unfold F122
  have hw0 : IntKind.i64.wrap ((m : Int) + 1) = (m : Int) + 1 := wrap64 (by omega) (by omega)
  simp [putA, hw0]
  refine call_num (l1Below_con hi hn (by omega) _) fun x i1 h1 c1 _ x0 x1 k1 => ?_
  rw [if_neg (by omega)] at x1
  obtain ⟨x, rfl⟩ := Int.eq_ofNat_of_zero_le x0
  simp
  refine loop_drop x (fun j e H c' => e 0 = .ptr 0 t 3 0 0 ∧ e 6 = .int .i64 (x - j : Nat) ∧ ∃ (to : Nat) (l : List Int) (i : Nat) (h : Int), e 5 = .ref 1 to 1 l.length ∧ l.length = j ∧ H = [cur t s i h, ⟨false, to, 1, l.map encI⟩] ∧ i ≤ s.list.length) ⟨rfl, rfl, _, [], i1, h1, rfl, rfl, rfl, k1⟩ ?_
  intro j e H c' hj ⟨e0, e6, to, l, i2, h2, e5, hy, hH, k2⟩ N hN
  subst hH
  by_cases hd : x - j = 0
  · simp [e0, e5, e6, hd]
    exact fin_all ⟨to, l, i2, h2, rfl, rfl, k2, by omega⟩
  have hjx : j < x := by omega
  have hdp : 0 < x - j := by omega
  have hdp' : (0 : Int) < ((x - j : Nat) : Int) := by omega
  have hdec : IntKind.i64.wrap (((x - j : Nat) : Int) - 1) = ((x - (j + 1) : Nat) : Int) := by rw [wrap64 (by omega) (by omega)]; omega
  have m1 : (l.length + 1) * 8 ≤ 140737488355328 := by omega
  have m2 : l.length + 1 ≤ mx := by unfold mx; omega
  generalize hq : x - j = q at e6 hdp hdp' hdec
  simp [e0, e5, e6, hdp, hdp']
  refine call_any (l1One_con k2 hn _) fun y i3 h3 c3 _ k3 => ?_
  simp [e0, e5, e6, putA, m1, m2, hdec]
  exact hN _ _ _ _ hjx (sub_two _ _ _) ⟨by simp [upd, e0], by simp [upd], c3 + 1, l ++ [y], i3, h3, by simp [upd], by simp; omega, by simp [encI], k3⟩

theorem view_any {S : List AObj} {i j t w n : Nat} {v : AV} (h : View S (.ref i t w n) v) : View S (.ref j t w n) v := by
  cases h with
  | refl => exact .name
  | junk => exact .junk _
  | name => exact .name
  | ref ho hle hl hr hc h => exact .ref ho hle hl hr hc h

theorem from_tup_mem {c : Nat} {l : List AV} (h : From c (.tup l)) : ∀ a, a ∈ l → From c a := fun a ha T hT => by
  have := h T hT
  cases this with
  | tup h => obtain ⟨j, hj, e⟩ := List.mem_iff_getElem.1 ha; exact h j a (by rw [← e]; exact List.getElem?_eq_getElem hj)
/-- Lines that actors have run over. -/
def GoodL (b : SL TLine) : Prop := b.list.length ≤ 3 ∧ ∀ x, x ∈ b.list → LOk 260 0 x.pl
theorem good_run {b e : SL TLine} {d : SL TActor} {d2 : SL TActor} {o : SL Int} (h : DrawnQ b d o) (hr : (e.list.map TLine.pl, d2.list.map TActor.pa) = runAll b.list d.list o.list) : GoodL e := by
  obtain ⟨g1, g2, g3, g4, g5, g6, g7, g8⟩ := h
  have n0 := nt_start g3 g5 g6
  have key : ∀ (n : Nat) (p : List PL × List PA), NT 100 (b.list.map TLine.pl) n p → n ≤ 160 → (e.list.map TLine.pl, d2.list.map TActor.pa) = p → p.1.length = b.list.length → GoodL e := fun n p nt hn hp hl => by
    subst hp
    refine ⟨by simp at hl; omega, fun x hx => ?_⟩
    obtain ⟨a1, a2, a3, a4, a5, a6, a7, a8⟩ := nt.ok x.pl (List.mem_map.2 ⟨x, hx, rfl⟩)
    exact ⟨a1, by omega, a3, a4, a5, a6, a7, a8⟩
  unfold runAll at hr
  split at hr
  · exact key o.list.length _ (by have := NT.run o.list o.list.length (Nat.le_refl _) n0; rwa [List.take_length] at this) (by omega) hr (by have := (run_len (b.list.map TLine.pl, d.list.map TActor.pa) o.list).1; simpa using this)
  · exact key 0 _ n0 (by omega) hr (by simp)
theorem drawn_ok {b : SL TLine} {d : SL TActor} {o : SL Int} (h : DrawnQ b d o) (c : Nat) : Con Try.prog 121 [b.av 4 TLine.enc, d.av 7 TActor.enc, o.av 1 encI] [] c fun r O _ => RunQ (runAll b.list d.list o.list) r O := by
  obtain ⟨g1, g2, g3, g4, g5, g6, g7, g8⟩ := h
  exact spec_run (by omega) (fun x hx => by have := (g3 x hx).2.2.2.2.2.2; omega) (by omega) (fun x hx => by have := (g6 x hx).2.2.2.2.1; omega) (by omega) (fun k hk => by have := g8 k hk; omega) c

theorem drawRec {s : SL Int} (hn : s.list.length ≤ 1048576) : Tr Try.prog 70 [s.av 1 encU] fun _ r => ∃ (b : SL TLine) (x : Int), r = .tup [b.av 4 TLine.enc, .int .i64 x] ∧ GoodL b ∧ -1 ≤ x ∧ x ≤ 3 := fun c => by
  refine con_of c70 (by simp [F70]) ?_
  unfold F70
  simp
  refine call_con (l1New_con hn _) fun r O c1 q1 ⟨t, h, hr, hO⟩ _ _ => ?_
  subst hr; subst hO
  refine ⟨.ptr, fun o ho => by simp at ho; subst ho; exact cur_rows t s 0 h, ?_⟩
  simp
  refine call_con (l34Draw_con (by omega) hn _) fun r O c2 q2 ⟨tl, l, i, h, hr, hO, hi, g1, g2, g3⟩ _ _ => ?_
  subst hr; subst hO
  refine ⟨.ref, tidyK (cur_rows t s i h) (tidyC (tidy_L tl l) (tidy_inns l)), ?_⟩
  simp
  refine call_curN (l34Cast_con hi hn _) fun r O c3 q3 ⟨ta, cs, i2, h2, hr, hO, hi2, g4, g5, g6⟩ => ?_
  subst hr; subst hO
  refine ⟨i2, h2, _, .ref 0 ta 7 cs.length, rfl, .name, .ref, tidyK (cur_rows t s i2 h2) (tidyC (tidy_A ta cs) (tidy_innA cs)), ?_⟩
  simp
  refine call_curN (l34Order_con hi2 hn _) fun r O c4 q4 ⟨to, os, i3, h3, hr, hO, hi3, g7, g8⟩ => ?_
  subst hr; subst hO
  refine ⟨i3, h3, _, .ref 0 to 1 os.length, rfl, .name, .ref, tidyK (cur_rows t s i3 h3) (tidyC (fun T => flat_free encI_flat 1 (.mk to os) _ (by rw [flat_wood]; simp) T) tidy0), ?_⟩
  simp
  have hd : DrawnQ (.mk tl l) (.mk ta cs) (.mk to os) := ⟨g1, g2, g3, g4, g5, g6, g7, g8⟩
  refine call_tree (run_trN (drawn_ok hd)) (.cons (view_any (view_line (s := .mk tl l) ?_)) (.cons (view_any (view_actor (s := .mk ta cs) ?_)) (.cons (view_any (view_flat (s := .mk to os) ?_ encI_flat.cells)) .nil))) fun r c5 q5 ⟨b, e, hr, hrun⟩ hfr => ?_
  · intro o ho; rw [wood_inns] at ho; simp at ho ⊢; rcases ho with h | h <;> simp [h]
  · intro o ho; rw [wood_innA] at ho; simp at ho ⊢; rcases ho with h | h <;> simp [h]
  · intro o ho; rw [flat_wood] at ho; simp at ho ⊢; simp [ho]
  subst hr
  simp
  refine call_num (l1Below_con hi3 hn (by omega) _) fun x i4 h4 c6 q6 x0 x1 k4 => ?_
  rw [if_neg (by omega)] at x1
  have hw : IntKind.i64.wrap (x - 1) = x - 1 := wrap64 (by omega) (by omega)
  simp [hw]
  exact fin_sub (Hk := []) (List.nil_sublist _) (.refl _) ⟨rfl, ⟨b, x - 1, rfl, good_run hd hrun, by omega, by omega⟩, from_tup fun a ha => by
    simp at ha
    rcases ha with rfl | rfl
    · exact (from_tup_mem hfr _ (List.mem_cons_self ..)).mono (by omega)
    · exact from_int _ _ _⟩
end A
end Go.Proofs.Ytgiiipbpadgcgaa

/-
  Recover of the reference and of the program are the same plain function. No condition.
-/

namespace Go.Proofs.Ytgiiipbpadgcgaa
namespace A
set_option linter.unusedVariables false
set_option linter.unusedSimpArgs false
set_option maxRecDepth 100000

/-- All lines, recovered. -/
def recover (owner : Int) (l : List TLine) : List TLine := if areLines l && decide (1 ≤ owner) then l.map (recL owner) else l
theorem areLines_con' {l m : List TLine} (h : l.map TLine.con = m.map TLine.con) : areLines l = areLines m := by
  have e : ∀ l : List TLine, areLines l = areLines (l.map TLine.con) := fun l => by
    unfold areLines
    rw [List.all_map, List.length_map]
    rfl
  rw [e, e m, h]
theorem recL_con (owner : Int) (x : TLine) : (recL owner x).con = (recL owner x.con).con := by
  unfold recL
  have : x.con.Owner = x.Owner := rfl
  rw [this]
  split <;> rfl
theorem recover_con {owner : Int} {l m : List TLine} (h : l.map TLine.con = m.map TLine.con) : (recover owner l).map TLine.con = (recover owner m).map TLine.con := by
  unfold recover
  rw [areLines_con' h]
  split
  · have e : ∀ l : List TLine, (l.map (recL owner)).map TLine.con = ((l.map TLine.con).map (recL owner)).map TLine.con := fun l => by
      rw [List.map_map, List.map_map, List.map_map]
      exact List.map_congr_left fun x _ => recL_con owner x
    rw [e, e m, h]
  · exact h

theorem spec_recO {s : SL TLine} {owner : Int} (hn : s.list.length ≤ 1048576) (hz : ∀ x, x ∈ s.list → x.Words.list.length ≤ 1048576) (c : Nat) :
    Con Try.prog 54 [s.av 4 TLine.enc, .int .i64 owner] [] c fun r O _ => ∃ b : SL TLine, r = b.ref 4 ∧ O = b.wood 4 TLine.encO TLine.inn ∧ b.list.map TLine.con = (recover owner s.list).map TLine.con := by
  refine con_of c54 (by simp [F54]) ?_
  unfold F54
  simp
  refine call_new (spec_copyO hn hz _) (Views.refl _ _) fun r O c1 hc ⟨b, hr, hO, hb⟩ _ _ => ?_
  subst hr; subst hO
  refine ⟨_, .refl _, free_ref _ _ _, fun o ho => free_wood TLine.freeO TLine.freeI _ o ho _, ?_⟩
  simp
  refine call_fn (spec_areLines (by unfold mx; omega)) (Views.refl _ _) .bool fun _ _ => ?_
  cases h1 : areLines s.list
  · simp
    exact fin_all ⟨b, rfl, rfl, by simp [recover, h1, hb]⟩
  by_cases h2 : 0 < owner
  rotate_left
  · simp [h2]
    exact fin_all ⟨b, rfl, rfl, by rw [hb]; unfold recover; rw [if_neg (by simp; intros; omega)]⟩
  simp [h2]
  have hbl : b.list.length = s.list.length := by simpa using congrArg List.length hb
  refine call_con (spec_recoverO (s := b) (owner := owner) (by omega) (fun x hx => ⟨(areLines_seq (by rw [areLines_con' hb]; exact h1) x hx).1, by have := (areLines_seq (by rw [areLines_con' hb]; exact h1) x hx).2; omega⟩) _) fun r H' c' _ ⟨q1, q2⟩ _ _ => ?_
  subst q1; subst q2
  refine ⟨.tup (by simp), fun o ho => free_wood TLine.freeO TLine.freeI _ o ho _, ?_⟩
  simp
  refine fin_all ⟨b.lmap (·.map (recL owner)), ?_, rfl, ?_⟩
  · cases b <;> simp [SL.lmap, SL.ref]
  · rw [SL.lmap_list (by simp)]
    have := recover_con (owner := owner) hb
    unfold recover at this ⊢
    rw [areLines_con' hb, h1] at this
    have h2' : (1 : Int) ≤ owner := by omega
    simp only [h2', decide_true, Bool.and_self, if_true] at this
    simp only [h1, h2', decide_true, Bool.and_self, if_true]
    exact this
theorem impl_recO {s : SL TLine} {owner : Int} (hn : s.list.length ≤ 1048576) (hz : ∀ x, x ∈ s.list → x.Words.list.length ≤ 1048576) (c : Nat) :
    Con Try.prog 55 [s.av 4 TLine.enc, .int .i64 owner] [] c fun r O _ => ∃ b : SL TLine, r = b.ref 4 ∧ O = b.wood 4 TLine.encO TLine.inn ∧ b.list.map TLine.con = (recover owner s.list).map TLine.con := by
  refine con_of c55 (by simp [F55]) ?_
  unfold F55
  simp
  refine call_new (impl_copyO hn hz _) (Views.refl _ _) fun r O c1 hc ⟨b, hr, hO, hb⟩ _ _ => ?_
  subst hr; subst hO
  refine ⟨_, .refl _, free_ref _ _ _, fun o ho => free_wood TLine.freeO TLine.freeI _ o ho _, ?_⟩
  simp
  refine call_fn (impl_areLines (by unfold mx; omega)) (Views.refl _ _) .bool fun _ _ => ?_
  cases h1 : areLines s.list
  · simp
    exact fin_all ⟨b, rfl, rfl, by simp [recover, h1, hb]⟩
  by_cases h2 : 1 ≤ owner
  rotate_left
  · simp [h2]
    exact fin_all ⟨b, rfl, rfl, by rw [hb]; unfold recover; rw [if_neg (by simp; intros; omega)]⟩
  simp [h2]
  have hbl : b.list.length = s.list.length := by simpa using congrArg List.length hb
  refine call_con (impl_recoverO (s := b) (owner := owner) (by omega) (fun x hx => ⟨(areLines_seq (by rw [areLines_con' hb]; exact h1) x hx).1, by have := (areLines_seq (by rw [areLines_con' hb]; exact h1) x hx).2; omega⟩) _) fun r H' c' _ ⟨q1, q2⟩ _ _ => ?_
  subst q1; subst q2
  refine ⟨.tup (by simp), fun o ho => free_wood TLine.freeO TLine.freeI _ o ho _, ?_⟩
  simp
  refine fin_all ⟨b.lmap (·.map (recL owner)), ?_, rfl, ?_⟩
  · cases b <;> simp [SL.lmap, SL.ref]
  · rw [SL.lmap_list (by simp)]
    have := recover_con (owner := owner) hb
    unfold recover at this ⊢
    rw [areLines_con' hb, h1] at this
    simp only [h2, decide_true, Bool.and_self, if_true] at this
    simp only [h1, h2, decide_true, Bool.and_self, if_true]
    exact this
end A
end Go.Proofs.Ytgiiipbpadgcgaa

/-
  WriteLine of the reference and of the program are the same plain function. No condition.
-/

namespace Go.Proofs.Ytgiiipbpadgcgaa
namespace A
set_option linter.unusedVariables false
set_option linter.unusedSimpArgs false
set_option maxRecDepth 100000

def wrOk (l : List TLine) (at_ v : Int) (n : Nat) : Bool :=
  areLines l && inR at_ 0 ((l.length : Int) - 1) && (match l[at_.toNat]? with | some x => !decide (x.Seq.tmod 2 = 1) && !decide (999999999998 < x.Seq) | none => false) && inR v 1 1000000000000 && decide (n ≤ 4100)
def wrOne (v : Int) (w : SL Int) (x : TLine) : TLine := ⟨x.Seq + 2, 0, v, w⟩
def wr (l : List TLine) (at_ v : Int) (ws : SL Int) : List TLine :=
  if wrOk l at_ v ws.list.length then (match l[at_.toNat]? with | some x => l.set at_.toNat (wrOne v ws x) | none => l) else l

def WQ (s : SL TLine) (at_ v : Int) (ws : SL Int) (r : AV) (O : List AObj) : Prop :=
  ∃ b : SL TLine, r = .tup [b.ref 4, .bool (wrOk s.list at_ v ws.list.length)] ∧ b.list.map TLine.con = s.list.map TLine.con ∧
      ((wrOk s.list at_ v ws.list.length = false ∧ O = b.wood 4 TLine.encO TLine.inn) ∨
       (wrOk s.list at_ v ws.list.length = true ∧ ∃ (t i : Nat) (x : TLine) (w : SL Int), at_ = i ∧ b = .mk t b.list ∧ b.list[i]? = some x ∧ w.list = ws.list ∧
        O = ⟨false, t, 4, (b.list.set i (wrOne v w x)).map TLine.encO⟩ :: (inns b.list ++ w.wood 1 encI noInn)))

theorem impl_wrO1 {s : SL TLine} {at_ v : Int} {ws : SL Int} (hn : s.list.length ≤ 1048576) (hz : ∀ x, x ∈ s.list → x.Words.list.length ≤ 1048576) (hw : ws.list.length ≤ 1048576) (c : Nat) :
    Con Try.prog 52 [s.av 4 TLine.enc, .int .i64 at_, .int .i64 v, ws.av 1 encI] [] c fun r O _ => WQ s at_ v ws r O := by
  refine con_of c52 (by simp [F52]) ?_
  unfold F52
  simp
  refine call_new (impl_copyO hn hz _) (Views.refl _ _) fun r O c1 hc ⟨b, hr, hO, hb⟩ _ _ => ?_
  subst hr; subst hO
  refine ⟨_, .refl _, free_ref _ _ _, fun o ho => free_wood TLine.freeO TLine.freeI _ o ho _, ?_⟩
  have hbl : b.list.length = s.list.length := by simpa using congrArg List.length hb
  simp
  refine call_fn (impl_areLines (by unfold mx; omega)) (Views.refl _ _) .bool fun _ _ => ?_
  cases h1 : areLines s.list
  · simp
    exact fin_all ⟨b, by simp [wrOk, h1], hb, .inl ⟨by simp [wrOk, h1], rfl⟩⟩
  have hw1 : IntKind.i64.wrap ((s.list.length : Int) - 1) = (s.list.length : Int) - 1 := wrap64 (by omega) (by omega)
  simp [hw1]
  refine call_fn (inRange_fn _ _ _) (Views.refl _ _) .bool fun _ _ => ?_
  cases h2 : inR at_ 0 ((s.list.length : Int) - 1)
  · simp
    exact fin_all ⟨b, by simp [wrOk, h1, h2], hb, .inl ⟨by simp [wrOk, h1, h2], rfl⟩⟩
  have h2' := inR_true h2
  obtain ⟨i, rfl⟩ := Int.eq_ofNat_of_zero_le h2'.1
  have hi : i < s.list.length := by omega
  have hget : s.list[i]? = some s.list[i] := List.getElem?_eq_getElem hi
  have hseq := areLines_seq h1 _ (List.getElem_mem hi)
  have hbi : b.list[i].con = s.list[i].con := by
    have := congrArg (·[i]?) hb
    simp only [List.getElem?_map, List.getElem?_eq_getElem hi, List.getElem?_eq_getElem (hbl ▸ hi : i < b.list.length), Option.map_some, Option.some.injEq] at this
    exact this
  generalize s.list[i] = x at hget hseq hbi
  have bad : wrOk s.list (i : Int) v ws.list.length = false → ∀ c', finW (fun r O _ => WQ s (i : Int) v ws r O) (.tup [b.ref 4, .bool false]) (b.wood 4 TLine.encO TLine.inn) c' := fun h c' =>
    fin_all ⟨b, by rw [h], hb, .inl ⟨h, rfl⟩⟩
  simp [hi, h1, h2]
  refine ⟨x, hget, ?_⟩
  by_cases h3 : x.Seq.tmod 2 = 1
  · simp [hi, h1, h2, h3]
    exact bad (by simp [wrOk, hget, h3]) _
  simp [hi, h1, h2, h3]
  refine ⟨x, hget, ?_⟩
  by_cases h4 : 999999999998 < x.Seq
  · simp [hi, h1, h2, h3, h4]
    exact bad (by simp [wrOk, hget, h4]) _
  simp [hi, h1, h2, h3, h4]
  refine call_fn (inRange_fn _ _ _) (Views.refl _ _) .bool fun _ _ => ?_
  cases h5 : inR v 1 1000000000000
  · simp [hi, h1, h2, h3, h4]
    exact bad (by simp [wrOk, h5]) _
  by_cases h6 : (4100 : Int) < ws.list.length
  · simp [hi, h1, h2, h3, h4, h6]
    exact bad (by simp [wrOk]; intros; omega) _
  simp [hi, h1, h2, h3, h4, h6]
  have ok : wrOk s.list (i : Int) v ws.list.length = true := by
    have h4' : x.Seq ≤ 999999999998 := by omega
    have h6' : ws.list.length ≤ 4100 := by omega
    simp [wrOk, h1, h2, hget, h3, h4', h5, h6']
  cases b with
  | nil => simp at hbl; omega
  | mk t l =>
    simp only [SL.list_mk] at hb hbl hbi
    have hil : i < l.length := by omega
    have hgl : l[i]? = some l[i] := List.getElem?_eq_getElem hil
    generalize l[i] = y at hgl hbi
    have hys : y.Seq = x.Seq := by have := congrArg TLine.Seq hbi; exact this
    have hyo : y.Owner = x.Owner := by have := congrArg TLine.Owner hbi; exact this
    have w2 : IntKind.i64.wrap (x.Seq + 2) = x.Seq + 2 := wrap64 (by omega) (by omega)
    have hset : ∀ z : List AV, (l.map TLine.encO).length = l.length := fun _ => by simp
    simp [ref_mk, hil, wood_inns]
    refine ⟨y, hgl, ?_⟩
    simp [ref_mk, hil, wood_inns, hys, w2, putA]
    refine ⟨y, hgl, ?_⟩
    simp only [Lz_app]
    refine call_new (cloneIO hw _) (Views.refl _ _) fun r O c2 hc2 ⟨w, hr, hO, hwl⟩ _ _ => ?_
    subst hr; subst hO
    refine ⟨_, .refl _, free_ref _ _ _, fun o ho => flat_free encI_flat _ _ o ho _, ?_⟩
    simp [ref_mk, hil, putA]
    have hown : y.Owner = 0 := by
      have hl : lineOk x = true := by
        unfold areLines at h1
        simp only [Bool.and_eq_true, List.all_eq_true] at h1
        exact h1.1 x (List.mem_of_getElem? hget)
      unfold lineOk at hl
      simp only [Bool.and_eq_true, beq_iff_eq, decide_eq_decide] at hl
      have ho := inR_true hl.1.1.1.2
      have := mt hl.2.2 h3
      omega
    refine fin_all ⟨.mk t l, by rw [ok]; simp [ref_mk], hb, .inr ⟨ok, t, i, y, w, rfl, rfl, hgl, hwl, ?_⟩⟩
    simp [wrOne, TLine.encO, List.map_set, hys, hown]
theorem spec_wrO1 {s : SL TLine} {at_ v : Int} {ws : SL Int} (hn : s.list.length ≤ 1048576) (hz : ∀ x, x ∈ s.list → x.Words.list.length ≤ 1048576) (hw : ws.list.length ≤ 1048576) (c : Nat) :
    Con Try.prog 50 [s.av 4 TLine.enc, .int .i64 at_, .int .i64 v, ws.av 1 encI] [] c fun r O _ => WQ s at_ v ws r O := by
  refine con_of c50 (by simp [F50]) ?_
  unfold F50
  simp
  refine call_new (spec_copyO hn hz _) (Views.refl _ _) fun r O c1 hc ⟨b, hr, hO, hb⟩ _ _ => ?_
  subst hr; subst hO
  refine ⟨_, .refl _, free_ref _ _ _, fun o ho => free_wood TLine.freeO TLine.freeI _ o ho _, ?_⟩
  have hbl : b.list.length = s.list.length := by simpa using congrArg List.length hb
  simp
  refine call_fn (spec_areLines (by unfold mx; omega)) (Views.refl _ _) .bool fun _ _ => ?_
  cases h1 : areLines s.list
  · simp
    exact fin_all ⟨b, by simp [wrOk, h1], hb, .inl ⟨by simp [wrOk, h1], rfl⟩⟩
  have hw1 : IntKind.i64.wrap ((s.list.length : Int) - 1) = (s.list.length : Int) - 1 := wrap64 (by omega) (by omega)
  simp [hw1]
  refine call_fn (l1In_fn _ _ _) (Views.refl _ _) .bool fun _ _ => ?_
  cases h2 : inR at_ 0 ((s.list.length : Int) - 1)
  · simp
    exact fin_all ⟨b, by simp [wrOk, h1, h2], hb, .inl ⟨by simp [wrOk, h1, h2], rfl⟩⟩
  have h2' := inR_true h2
  obtain ⟨i, rfl⟩ := Int.eq_ofNat_of_zero_le h2'.1
  have hi : i < s.list.length := by omega
  have hget : s.list[i]? = some s.list[i] := List.getElem?_eq_getElem hi
  have hseq := areLines_seq h1 _ (List.getElem_mem hi)
  have hbi : b.list[i].con = s.list[i].con := by
    have := congrArg (·[i]?) hb
    simp only [List.getElem?_map, List.getElem?_eq_getElem hi, List.getElem?_eq_getElem (hbl ▸ hi : i < b.list.length), Option.map_some, Option.some.injEq] at this
    exact this
  generalize s.list[i] = x at hget hseq hbi
  have bad : wrOk s.list (i : Int) v ws.list.length = false → ∀ c', finW (fun r O _ => WQ s (i : Int) v ws r O) (.tup [b.ref 4, .bool false]) (b.wood 4 TLine.encO TLine.inn) c' := fun h c' =>
    fin_all ⟨b, by rw [h], hb, .inl ⟨h, rfl⟩⟩
  simp [hi, h1, h2]
  refine ⟨x, hget, ?_⟩
  by_cases h3 : x.Seq.tmod 2 = 1
  · simp [hi, h1, h2, h3]
    exact bad (by simp [wrOk, hget, h3]) _
  simp [hi, h1, h2, h3]
  refine ⟨x, hget, ?_⟩
  by_cases h4 : 999999999998 < x.Seq
  · simp [hi, h1, h2, h3, h4]
    exact bad (by simp [wrOk, hget, h4]) _
  simp [hi, h1, h2, h3, h4]
  refine call_fn (l1In_fn _ _ _) (Views.refl _ _) .bool fun cc _ => ?_
  cases h5 : inR v 1 1000000000000
  · simp [hi, h1, h2, h3, h4]
    exact bad (by simp [wrOk, h5]) _
  by_cases h6 : (4100 : Int) < ws.list.length
  · simp [hi, h1, h2, h3, h4, h6]
    exact bad (by simp [wrOk]; intros; omega) _
  simp [hi, h1, h2, h3, h4, h6]
  have ok : wrOk s.list (i : Int) v ws.list.length = true := by
    have h4' : x.Seq ≤ 999999999998 := by omega
    have h6' : ws.list.length ≤ 4100 := by omega
    simp [wrOk, h1, h2, hget, h3, h4', h5, h6']
  cases b with
  | nil => simp at hbl; omega
  | mk t l =>
    simp only [SL.list_mk] at hb hbl hbi
    have hil : i < l.length := by omega
    have hgl : l[i]? = some l[i] := List.getElem?_eq_getElem hil
    generalize l[i] = y at hgl hbi
    have hys : y.Seq = x.Seq := by have := congrArg TLine.Seq hbi; exact this
    have hyo : y.Owner = x.Owner := by have := congrArg TLine.Owner hbi; exact this
    have w2 : IntKind.i64.wrap (x.Seq + 2) = x.Seq + 2 := wrap64 (by omega) (by omega)
    simp [ref_mk, hil, wood_inns]
    refine ⟨x, hget, ?_⟩
    have m1 : ws.list.length * 8 ≤ 140737488355328 := by omega
    have m2 : ws.list.length ≤ mx := by unfold mx; omega
    simp [ref_mk, hil, wood_inns, w2, putA, m1, m2]
    have hd4 : List.drop 4 y.encO = [] := rfl
    refine ⟨y, hgl, ?_⟩
    simp [hd4]
    refine fin_ren (List.Sublist.refl _) (.cons (renSet (row' := (wrOne v (.mk (cc + 1) ws.list) y).encO) ?_ ?_) (.refl _ _)) (.refl _) ⟨.mk t l, by rw [ok]; simp [ref_mk], hb, .inr ⟨ok, t, i, y, .mk (cc + 1) ws.list, rfl, rfl, hgl, rfl, ?_⟩⟩
    · rfl
    · intro j a a' h7 h8
      match j, h7, h8 with
      | 0, h7, h8 => simp at h7; simp [TLine.encO, wrOne] at h8; exact .inl (by rw [← h7, ← h8, hys])
      | 1, h7, h8 => simp at h7; simp [TLine.encO, wrOne] at h8; exact .inl (by rw [← h7, ← h8])
      | 2, h7, h8 => simp at h7; simp [TLine.encO, wrOne] at h8; exact .inl (by rw [← h7, ← h8])
      | 3, h7, h8 =>
        simp at h7; simp [TLine.encO, wrOne] at h8
        subst h7; subst h8
        exact .inr ⟨rfl, view_at' ((inns l).length + 1) 1 (SL.mk (cc + 1) ws.list) []⟩
      | j + 4, h7, h8 => simp at h7
    · simp [List.map_set, flat_wood]
/-- What WriteLine hands back. -/
def WR (s : SL TLine) (at_ v : Int) (ws : SL Int) (b : SL TLine) (l : List AV) : Prop := l = [.bool (wrOk s.list at_ v ws.list.length)] ∧ b.list.map TLine.con = (wr s.list at_ v ws).map TLine.con

theorem wq_wr {s : SL TLine} {at_ v : Int} {ws : SL Int} {r : AV} {O : List AObj} (h : WQ s at_ v ws r O) :
    ∃ Hs H2 : List AObj, Hs.Sublist O ∧ H2.Perm Hs ∧ ∃ (b : SL TLine) (l : List AV), r = .tup (b.ref 4 :: l) ∧ H2 = b.wood 4 TLine.encO TLine.inn ∧ WR s at_ v ws b l := by
  obtain ⟨b, hr, hb, ⟨hk, hO⟩ | ⟨hk, t, i, x, w, ha, hbt, hg, hw, hO⟩⟩ := h
  · exact ⟨O, O, List.Sublist.refl _, List.Perm.refl _, b, _, hr, hO, rfl, by rw [hb]; unfold wr; rw [if_neg (by simp [hk])]⟩
  · obtain ⟨hi, hgx⟩ := List.getElem?_eq_some_iff.1 hg
    generalize b.list = bl at hb hbt hg hO hi hgx
    subst hbt; subst ha; subst hO
    have hsl : bl.length = s.list.length := by simpa using congrArg List.length hb
    obtain ⟨y, hy⟩ : ∃ y, s.list[i]? = some y := ⟨_, List.getElem?_eq_getElem (hsl ▸ hi)⟩
    have hxy : x.con = y.con := by
      have := congrArg (·[i]?) hb
      simp only [List.getElem?_map, hg, hy, Option.map_some, Option.some.injEq] at this
      exact this
    refine ⟨⟨false, t, 4, (bl.set i (wrOne v w x)).map TLine.encO⟩ :: ((inns (bl.take i) ++ inns (bl.drop (i + 1))) ++ w.wood 1 encI noInn), ⟨false, t, 4, (bl.set i (wrOne v w x)).map TLine.encO⟩ :: inns (bl.set i (wrOne v w x)), ?_, ?_, .mk t (bl.set i (wrOne v w x)), _, ?_, (wood_inns _ _).symm, rfl, ?_⟩
    · rw [inns_at hi]
      refine List.Sublist.cons_cons _ (List.Sublist.append (List.Sublist.append (List.Sublist.refl _) (List.sublist_append_right _ _)) (List.Sublist.refl _))
    · rw [inns_set hi]
      refine List.Perm.cons _ ?_
      rw [List.append_assoc]
      exact List.Perm.append_left _ List.perm_append_comm
    · rw [hr]; simp [ref_mk]
    · unfold wr
      rw [if_pos hk]
      simp only [Int.toNat_natCast, hy, SL.list_mk, List.map_set, hb]
      congr 1
      have h1 : x.Seq = y.Seq := (congrArg TLine.Seq hxy : x.con.Seq = y.con.Seq)
      simp [TLine.con, wrOne, SL.pcon, h1, hw]

theorem spec_wrO {s : SL TLine} {at_ v : Int} {ws : SL Int} (hn : s.list.length ≤ 1048576) (hz : ∀ x, x ∈ s.list → x.Words.list.length ≤ 1048576) (hw : ws.list.length ≤ 1048576) (c : Nat) :
    Con Try.prog 50 [s.av 4 TLine.enc, .int .i64 at_, .int .i64 v, ws.av 1 encI] [] c fun r O _ => ∃ (b : SL TLine) (l : List AV), r = .tup (b.ref 4 :: l) ∧ O = b.wood 4 TLine.encO TLine.inn ∧ WR s at_ v ws b l :=
  con_perm (spec_wrO1 hn hz hw c) fun r H' c' h => wq_wr h
theorem impl_wrO {s : SL TLine} {at_ v : Int} {ws : SL Int} (hn : s.list.length ≤ 1048576) (hz : ∀ x, x ∈ s.list → x.Words.list.length ≤ 1048576) (hw : ws.list.length ≤ 1048576) (c : Nat) :
    Con Try.prog 52 [s.av 4 TLine.enc, .int .i64 at_, .int .i64 v, ws.av 1 encI] [] c fun r O _ => ∃ (b : SL TLine) (l : List AV), r = .tup (b.ref 4 :: l) ∧ O = b.wood 4 TLine.encO TLine.inn ∧ WR s at_ v ws b l :=
  con_perm (impl_wrO1 hn hz hw c) fun r H' c' h => wq_wr h

theorem wr_con {l m : List TLine} {at_ v : Int} {ws us : SL Int} (h : l.map TLine.con = m.map TLine.con) (hw : ws.list = us.list) : wrOk l at_ v ws.list.length = wrOk m at_ v us.list.length ∧ (wr l at_ v ws).map TLine.con = (wr m at_ v us).map TLine.con := by
  have hlen : l.length = m.length := by simpa using congrArg List.length h
  have hg : (l[at_.toNat]?).map TLine.con = (m[at_.toNat]?).map TLine.con := by
    have := congrArg (·[at_.toNat]?) h
    simpa only [List.getElem?_map] using this
  have hok : wrOk l at_ v ws.list.length = wrOk m at_ v us.list.length := by
    unfold wrOk
    rw [areLines_con' h, hlen, hw]
    congr 3
    cases h1 : l[at_.toNat]? with
    | none =>
      cases h2 : m[at_.toNat]? with
      | none => rfl
      | some y => rw [h1, h2] at hg; cases hg
    | some x =>
      cases h2 : m[at_.toNat]? with
      | none => rw [h1, h2] at hg; cases hg
      | some y =>
        rw [h1, h2] at hg
        have : x.con = y.con := by simpa using hg
        have : x.Seq = y.Seq := (congrArg TLine.Seq this : x.con.Seq = y.con.Seq)
        dsimp only; rw [this]
  refine ⟨hok, ?_⟩
  unfold wr
  rw [hok]
  split
  · cases h1 : l[at_.toNat]? with
    | none =>
      cases h2 : m[at_.toNat]? with
      | none => exact h
      | some y => rw [h1, h2] at hg; cases hg
    | some x =>
      cases h2 : m[at_.toNat]? with
      | none => rw [h1, h2] at hg; cases hg
      | some y =>
        rw [h1, h2] at hg
        have hxy : x.con = y.con := by simpa using hg
        have hs : x.Seq = y.Seq := (congrArg TLine.Seq hxy : x.con.Seq = y.con.Seq)
        simp only [List.map_set, h]
        congr 1
        simp [TLine.con, wrOne, SL.pcon, hs, hw]
  · exact h
end A
end Go.Proofs.Ytgiiipbpadgcgaa

/-
  ReadLine of the reference and of the program are the same plain function. No condition.
-/


namespace Go.Proofs.Ytgiiipbpadgcgaa
namespace A
set_option linter.unusedVariables false
set_option linter.unusedSimpArgs false
set_option maxRecDepth 100000

/-- Whether a line is read. -/
def readsL (at_ ver : Int) (l : List TLine) : Bool :=
  areLines l && inR at_ 0 (l.length - 1) && (match l[at_.toNat]? with | some x => decide (x.Seq.tmod 2 ≠ 1) && decide (x.Version = ver) | none => false) && decide (1 ≤ ver)
def readL (at_ ver : Int) (l : List TLine) : List Int := if readsL at_ ver l then (match l[at_.toNat]? with | some x => x.Words.list | none => []) else []

def ReadQ (at_ ver : Int) (l : List TLine) (x : SL Int) (r : List AV) : Prop := x.list = readL at_ ver l ∧ r = [.bool (readsL at_ ver l)]

theorem readL_no {at_ ver : Int} {l : List TLine} (h : readsL at_ ver l = false) : readL at_ ver l = [] := by unfold readL; rw [h]; rfl

theorem spec_readO {s : SL TLine} {at_ ver : Int} (hn : s.list.length ≤ 1048576) (hz : ∀ x, x ∈ s.list → x.Words.list.length ≤ 1048576) (c : Nat) :
    Con Try.prog 31 [s.av 4 TLine.enc, .int .i64 at_, .int .i64 ver] [] c fun r O _ => ∃ (x : SL Int) (l : List AV), r = .tup (x.ref 1 :: l) ∧ O = x.wood 1 encI noInn ∧ ReadQ at_ ver s.list x l := by
  refine con_of c31 (by simp [F31]) ?_
  unfold F31
  simp
  refine call_fn0 (spec_areLines (by unfold mx; omega)) .bool fun cc _ => ?_
  have bad : ∀ c', readsL at_ ver s.list = false → finW (fun r O _ => ∃ (x : SL Int) (l : List AV), r = .tup (x.ref 1 :: l) ∧ O = x.wood 1 encI noInn ∧ ReadQ at_ ver s.list x l)
      (.tup [.ref 0 c' 1 0, .bool false]) [⟨false, c', 1, []⟩] (c' + 1) := fun c' hb => fin_all ⟨.mk c' [], [.bool false], rfl, by simp [flat_wood], by rw [readL_no hb]; rfl, by rw [hb]⟩
  cases h1 : areLines s.list
  · simp
    exact bad _ (by simp [readsL, h1])
  have hw : IntKind.i64.wrap ((s.list.length : Int) - 1) = s.list.length - 1 := wrap64 (by omega) (by omega)
  simp [hw]
  refine call_fn0 (l1In_fn _ _ _) .bool fun cc _ => ?_
  cases h2 : inR at_ 0 (s.list.length - 1)
  · simp
    exact bad _ (by simp [readsL, h2])
  have g2 := inR_true h2
  obtain ⟨k, rfl⟩ : ∃ k : Nat, at_ = k := ⟨at_.toNat, by omega⟩
  have hk : k < s.list.length := by omega
  have hg : s.list[k]? = some s.list[k] := List.getElem?_eq_getElem hk
  have hr : readsL k ver s.list = (decide (s.list[k].Seq.tmod 2 ≠ 1) && decide (s.list[k].Version = ver) && decide (1 ≤ ver)) := by simp [readsL, h1, h2, hg]
  simp
  refine ⟨_, hg, ?_⟩
  have hwx := hz _ (List.getElem_mem hk)
  by_cases h3 : s.list[k].Seq.tmod 2 = 1
  · simp [h3]
    exact bad _ (by rw [hr]; simp [h3])
  simp [h3]
  refine ⟨_, hg, ?_⟩
  by_cases h4 : s.list[k].Version = ver
  rotate_left
  · simp [h4]
    exact bad _ (by rw [hr]; simp [h4])
  by_cases h5 : ver < 1
  · simp [h4, h5]
    exact bad _ (by rw [hr]; simp [h3]; intros; omega)
  simp [h4, h5]
  refine ⟨_, hg, ?_⟩
  simp
  have hgood : readsL k ver s.list = true := by rw [hr]; simp [h3, h4]; omega
  refine ⟨by omega, by unfold mx; omega, ?_⟩
  exact fin_all ⟨.mk (cc + 1) s.list[k].Words.list, [.bool true], by simp [SL.ref], by simp [flat_wood], by simp [readL, hgood, hg], by rw [hgood]⟩

theorem impl_readO {s : SL TLine} {at_ ver : Int} (hn : s.list.length ≤ 1048576) (hz : ∀ x, x ∈ s.list → x.Words.list.length ≤ 1048576) (c : Nat) :
    Con Try.prog 33 [s.av 4 TLine.enc, .int .i64 at_, .int .i64 ver] [] c fun r O _ => ∃ (x : SL Int) (l : List AV), r = .tup (x.ref 1 :: l) ∧ O = x.wood 1 encI noInn ∧ ReadQ at_ ver s.list x l := by
  refine con_of c33 (by simp [F33]) ?_
  unfold F33
  simp
  refine call_fn0 (impl_areLines (by unfold mx; omega)) .bool fun cc _ => ?_
  have bad : ∀ c', readsL at_ ver s.list = false → finW (fun r O _ => ∃ (x : SL Int) (l : List AV), r = .tup (x.ref 1 :: l) ∧ O = x.wood 1 encI noInn ∧ ReadQ at_ ver s.list x l)
      (.tup [.nsl, .bool false]) [] c' := fun c' hb => fin_all ⟨.nil, [.bool false], rfl, rfl, by rw [readL_no hb]; rfl, by rw [hb]⟩
  cases h1 : areLines s.list
  · simp
    exact bad _ (by simp [readsL, h1])
  have hw : IntKind.i64.wrap ((s.list.length : Int) - 1) = s.list.length - 1 := wrap64 (by omega) (by omega)
  simp [hw]
  refine call_fn0 (inRange_fn _ _ _) .bool fun cc _ => ?_
  cases h2 : inR at_ 0 (s.list.length - 1)
  · simp
    exact bad _ (by simp [readsL, h2])
  have g2 := inR_true h2
  obtain ⟨k, rfl⟩ : ∃ k : Nat, at_ = k := ⟨at_.toNat, by omega⟩
  have hk : k < s.list.length := by omega
  have hg : s.list[k]? = some s.list[k] := List.getElem?_eq_getElem hk
  have hr : readsL k ver s.list = (decide (s.list[k].Seq.tmod 2 ≠ 1) && decide (s.list[k].Version = ver) && decide (1 ≤ ver)) := by simp [readsL, h1, h2, hg]
  simp
  refine ⟨_, hg, ?_⟩
  have hwx := hz _ (List.getElem_mem hk)
  by_cases h3 : s.list[k].Seq.tmod 2 = 1
  · simp [h3]
    exact bad _ (by rw [hr]; simp [h3])
  simp [h3]
  refine ⟨_, hg, ?_⟩
  by_cases h4 : s.list[k].Version = ver
  rotate_left
  · simp [h4]
    exact bad _ (by rw [hr]; simp [h4])
  by_cases h5 : ver < 1
  · simp [h4, h5]
    exact bad _ (by rw [hr]; simp [h3]; intros; omega)
  simp [h4, h5]
  refine ⟨_, hg, ?_⟩
  simp
  have hgood : readsL k ver s.list = true := by rw [hr]; simp [h3, h4]; omega
  refine call_new (cloneIO hwx _) (Views.refl _ _) fun r O c1 hc ⟨x, hr, hO, hx⟩ _ _ => ?_
  subst hr; subst hO
  refine ⟨_, .refl _, free_ref _ _ _, fun o ho => flat_free encI_flat _ _ o ho _, ?_⟩
  simp
  exact fin_all ⟨x, [.bool true], rfl, rfl, by simp [readL, hgood, hg, hx], by rw [hgood]⟩
end A
end Go.Proofs.Ytgiiipbpadgcgaa

/-
  FnRecovered answers true. No condition.
-/



namespace Go.Proofs.Ytgiiipbpadgcgaa
namespace A
set_option linter.unusedVariables false
set_option linter.unusedSimpArgs false
set_option maxRecDepth 100000

theorem drawWr {s : SL Int} (hn : s.list.length ≤ 1048576) : Tr Try.prog 71 [s.av 1 encU] fun _ r => ∃ (b : SL TLine) (k v : Int) (ws : SL Int), r = .tup [b.av 4 TLine.enc, .int .i64 k, .int .i64 v, ws.av 1 encI] ∧ GoodL b ∧ -1 ≤ k ∧ k ≤ 2 ∧ 0 ≤ v ∧ v ≤ 3 ∧ ws.list.length ≤ 4 := fun c => by
  have key : Con Try.prog 71 [s.av 1 encU] [] c fun r O _ => ∃ (b : SL TLine) (k v : Int) (ws : SL Int), r = .tup [b.av 4 TLine.enc, .int .i64 k, .int .i64 v, ws.ref 1] ∧ O = ws.wood 1 encI noInn ∧ From c (b.av 4 TLine.enc) ∧ GoodL b ∧ -1 ≤ k ∧ k ≤ 2 ∧ 0 ≤ v ∧ v ≤ 3 ∧ ws.list.length ≤ 4 := by
    refine con_of c71 (by simp [F71]) ?_
    unfold F71
    simp
    refine call_con (l1New_con hn _) fun r O c1 q1 ⟨t, h, hr, hO⟩ _ _ => ?_
    subst hr; subst hO
    refine ⟨.ptr, fun o ho => by simp at ho; subst ho; exact cur_rows t s 0 h, ?_⟩
    simp
    refine call_con (l34Draw_con (by omega) hn _) fun r O c2 q2 ⟨tl, l, i, h, hr, hO, hi, g1, g2, g3⟩ _ _ => ?_
    subst hr; subst hO
    refine ⟨.ref, tidyK (cur_rows t s i h) (tidyC (tidy_L tl l) (tidy_inns l)), ?_⟩
    simp
    refine call_curN (l34Cast_con hi hn _) fun r O c3 q3 ⟨ta, cs, i2, h2, hr, hO, hi2, g4, g5, g6⟩ => ?_
    subst hr; subst hO
    refine ⟨i2, h2, _, .ref 0 ta 7 cs.length, rfl, .name, .ref, tidyK (cur_rows t s i2 h2) (tidyC (tidy_A ta cs) (tidy_innA cs)), ?_⟩
    simp
    refine call_curN (l34Order_con hi2 hn _) fun r O c4 q4 ⟨to, os, i3, h3, hr, hO, hi3, g7, g8⟩ => ?_
    subst hr; subst hO
    refine ⟨i3, h3, _, .ref 0 to 1 os.length, rfl, .name, .ref, tidyK (cur_rows t s i3 h3) (tidyC (fun T => flat_free encI_flat 1 (.mk to os) _ (by rw [flat_wood]; simp) T) tidy0), ?_⟩
    simp
    have hd : DrawnQ (.mk tl l) (.mk ta cs) (.mk to os) := ⟨g1, g2, g3, g4, g5, g6, g7, g8⟩
    refine call_tree (run_trN (drawn_ok hd)) (.cons (view_any (view_line (s := .mk tl l) ?_)) (.cons (view_any (view_actor (s := .mk ta cs) ?_)) (.cons (view_any (view_flat (s := .mk to os) ?_ encI_flat.cells)) .nil))) fun r c5 q5 ⟨b, e, hr, hrun⟩ hfr => ?_
    · intro o ho; rw [wood_inns] at ho; simp at ho ⊢; rcases ho with h | h <;> simp [h]
    · intro o ho; rw [wood_innA] at ho; simp at ho ⊢; rcases ho with h | h <;> simp [h]
    · intro o ho; rw [flat_wood] at ho; simp at ho ⊢; simp [ho]
    subst hr
    simp
    refine call_num (l1Below_con hi3 hn (by omega) _) fun x i4 h4 c6 q6 x0 x1 k4 => ?_
    rw [if_neg (by omega)] at x1
    have hw : IntKind.i64.wrap (x - 1) = x - 1 := wrap64 (by omega) (by omega)
    simp [hw]
    refine call_num (l1Below_con k4 hn (by omega) _) fun v i5 h5 c7 q7 v0 v1 k5 => ?_
    rw [if_neg (by omega)] at v1
    simp
    refine call_curN (l3Ints_con (m := 4) (by omega) k5 hn _) fun r O c8 q8 ⟨tw, ws, i6, h6, hr, hO, hi6, g9⟩ => ?_
    subst hr; subst hO
    refine ⟨i6, h6, _, .ref 0 tw 1 ws.length, rfl, .name, .ref, tidyK (cur_rows t s i6 h6) (tidyC (fun T => flat_free encI_flat 1 (.mk tw ws) _ (by rw [flat_wood]; simp) T) tidy0), ?_⟩
    simp
    refine fin_sub (Hk := (SL.mk tw ws).wood 1 encI noInn) ?_ (v' := .tup [b.av 4 TLine.enc, .int .i64 (x - 1), .int .i64 v, (SL.mk tw ws).ref 1]) (view_tup (.cons (.refl _) (.cons (.refl _) (.cons (.refl _) (.cons .name .nil))))) ⟨b, x - 1, v, .mk tw ws, rfl, rfl, (from_tup_mem hfr _ (List.mem_cons_self ..)).mono (by omega), good_run hd hrun, by omega, by omega, v0, by omega, by simpa using g9⟩
    rw [flat_wood]
    simp
  refine Con.fin key fun r O c' hc ⟨b, k, v, ws, h1, h2, h3, h4, h5, h6, h7, h8, h9⟩ ho hd => ?_
  have hfr : ∀ t, t ∈ tags O → c ≤ t := fun t ht => by
    rcases Nat.lt_or_ge t c with h | h
    · have := ho t h ht; simp [tags] at this
    · exact h
  refine ⟨O, [], [], .tup [b.av 4 TLine.enc, .int .i64 k, .int .i64 v, ws.av 1 encI], List.nil_sublist _, .nil, fun _ h => h, by simp [tags], ?_, rfl, ⟨b, k, v, ws, rfl, h4, h5, h6, h7, h8, h9⟩, from_tup fun a ha => ?_⟩
  · rw [h1, h2]
    exact view_tup (.cons (.refl _) (.cons (.refl _) (.cons (.refl _) (.cons (view_flat (fun _ h => h) encI_flat.cells) .nil))))
  · simp at ha
    rcases ha with rfl | rfl | rfl | rfl
    · exact h3
    · exact from_int _ _ _
    · exact from_int _ _ _
    · exact flat_from encI_flat fun t h => hfr t (by rw [h2]; exact h)

theorem lok_line {x : TLine} (h : LOk 260 0 x.pl) : lineOk x = true := by
  obtain ⟨h1, h2, h3, h4, h5, h6, h7, h8⟩ := h
  simp only [TLine.pl] at h1 h2 h3 h4 h5 h6 h7 h8
  unfold lineOk inR
  simp only [Bool.and_eq_true, decide_eq_true_eq, beq_iff_eq, decide_eq_decide]
  exact ⟨⟨⟨⟨⟨h1, by omega⟩, h3, h4⟩, h5, h6⟩, h7⟩, h8⟩
theorem good_are {b : SL TLine} (h : GoodL b) : areLines b.list = true := by
  unfold areLines
  simp only [Bool.and_eq_true, List.all_eq_true, decide_eq_true_eq]
  exact ⟨fun x hx => lok_line (h.2 x hx), by have := h.1; omega⟩
theorem good_rec {b : SL TLine} {ow : Int} (h : GoodL b) (ho : 1 ≤ ow) : areLines (b.list.map (recL ow)) = true := by
  unfold areLines
  simp only [Bool.and_eq_true, List.all_eq_true, decide_eq_true_eq]
  refine ⟨fun x hx => ?_, by have := h.1; simp; omega⟩
  obtain ⟨y, hy, rfl⟩ := List.mem_map.1 hx
  have g := h.2 y hy
  unfold recL
  split
  · rename_i hoy
    refine lok_line ?_
    obtain ⟨h1, h2, h3, h4, h5, h6, h7, h8⟩ := g
    simp only [TLine.pl] at h1 h2 h3 h4 h5 h6 h7 h8
    have h9 := h8.2 (by omega)
    rw [Int.tmod_eq_emod_of_nonneg h1] at h9
    refine ⟨?_, ?_, ?_, ?_, ?_, ?_, ?_, ?_⟩ <;> simp only [TLine.pl]
    · omega
    · omega
    · omega
    · omega
    · omega
    · omega
    · simp
    · rw [Int.tmod_eq_emod_of_nonneg (by omega)]; omega
  · exact lok_line g
theorem wr_words {m : List TLine} {k v : Int} {ws : SL Int} {y : List TLine} (hm : ∀ x, x ∈ m → x.Words.list.length ≤ 1048576) (hw : ws.list.length ≤ 1048576) (hy : y.map TLine.con = (wr m k v ws).map TLine.con) : ∀ x, x ∈ y → x.Words.list.length ≤ 1048576 := fun x hx => by
  have : x.con ∈ (wr m k v ws).map TLine.con := by rw [← hy]; exact List.mem_map.2 ⟨x, hx, rfl⟩
  obtain ⟨z, hz, he⟩ := List.mem_map.1 this
  have e : x.Words.list = z.Words.list := by
    have := congrArg (fun t : TLine => t.Words.list) he
    simpa [TLine.con, SL.pcon] using this.symm
  rw [e]
  unfold wr at hz
  split at hz
  · split at hz
    · rcases List.mem_or_eq_of_mem_set hz with hz | rfl
      · exact hm z hz
      · exact hw
    · exact hm z hz
  · exact hm z hz
theorem wr_reads {m : List TLine} {k v : Int} {ws : SL Int} {y : List TLine} (hk : wrOk m k v ws.list.length = true) (hy : y.map TLine.con = (wr m k v ws).map TLine.con) :
    readsL k v y = true ∧ readsL k (v + 1) y = false ∧ readL k v y = ws.list := by
  have hk0 := hk
  unfold wrOk inR at hk
  simp only [Bool.and_eq_true, decide_eq_true_eq] at hk
  obtain ⟨⟨⟨⟨hA, k0, k1⟩, hx⟩, v0, v1⟩, hn⟩ := hk
  obtain ⟨i, rfl⟩ := Int.eq_ofNat_of_zero_le k0
  have hi : i < m.length := by omega
  have gx : m[i]? = some m[i] := List.getElem?_eq_getElem hi
  rw [Int.toNat_natCast, gx] at hx
  simp only [Bool.and_eq_true, Bool.not_eq_true', decide_eq_false_iff_not] at hx
  have hwr : wr m i v ws = m.set i (wrOne v ws m[i]) := by
    unfold wr
    rw [if_pos hk0, Int.toNat_natCast, gx]
  rw [hwr] at hy
  have hyl : y.length = m.length := by simpa using congrArg List.length hy
  unfold areLines at hA
  simp only [Bool.and_eq_true, List.all_eq_true, decide_eq_true_eq] at hA
  have hxi := hA.1 _ (List.getElem_mem hi)
  unfold lineOk inR at hxi
  simp only [Bool.and_eq_true, decide_eq_true_eq] at hxi
  obtain ⟨⟨⟨⟨⟨s0, s1⟩, _⟩, _⟩, _⟩, _⟩ := hxi
  rw [Int.tmod_eq_emod_of_nonneg s0] at hx
  have s2 : (m[i].Seq + 2).tmod 2 ≠ 1 := by rw [Int.tmod_eq_emod_of_nonneg (by omega)]; omega
  have hAy : areLines y = true := by
    rw [areLines_con' hy]
    unfold areLines
    simp only [Bool.and_eq_true, List.all_eq_true, decide_eq_true_eq]
    refine ⟨fun z hz => ?_, by simp; exact hA.2⟩
    rcases List.mem_or_eq_of_mem_set hz with hz | rfl
    · exact hA.1 z hz
    · unfold lineOk inR wrOne
      simp only [Bool.and_eq_true, decide_eq_true_eq, beq_iff_eq, decide_eq_decide]
      refine ⟨⟨⟨⟨⟨by omega, by omega⟩, by omega, by omega⟩, by omega, by omega⟩, hn⟩, ?_⟩
      constructor
      · intro h; exact absurd h s2
      · intro h; omega
  have gy : y[i]? = some y[i] := List.getElem?_eq_getElem (by omega)
  have e : (y[i]'(by omega)).con = (wrOne v ws m[i]).con := by
    have h1 := congrArg (fun l : List TLine => l[i]?) hy
    simp only [List.getElem?_map, List.getElem?_set_self hi, gy, Option.map_some, Option.some.injEq] at h1
    exact h1
  generalize (y[i]'(by omega)) = z at gy e
  have e1 : z.Seq = m[i].Seq + 2 := congrArg (fun t : TLine => t.Seq) e
  have e2 : z.Version = v := congrArg (fun t : TLine => t.Version) e
  have e3 : z.Words.list = ws.list := by
    have := congrArg (fun t : TLine => t.Words.list) e
    simpa [TLine.con, SL.pcon, wrOne] using this
  have hr : readsL i v y = true := by
    unfold readsL inR
    simp only [Int.toNat_natCast, gy, Bool.and_eq_true, decide_eq_true_eq]
    exact ⟨⟨⟨hAy, by omega, by omega⟩, by rw [e1]; exact s2, e2⟩, v0⟩
  refine ⟨hr, ?_, ?_⟩
  · unfold readsL
    simp [gy, e2]
    intros; omega
  · unfold readL
    rw [if_pos hr]
    simp [gy, e3]

theorem rdF {k v : Int} {l : List TLine} (x : SL Int) (r : List AV) (h : ReadQ k v l x r) : ∀ a, a ∈ r → Free a := fun a ha => by
  rw [h.2] at ha; simp at ha; subst ha; exact free_bool _
theorem wrF0 {s : SL TLine} {at_ v : Int} {ws : SL Int} (b : SL TLine) (l : List AV) (h : WR s at_ v ws b l) : ∀ a, a ∈ l → Free a := fun a ha => by
  rw [h.1] at ha; simp at ha; subst ha; exact free_bool _

theorem law_recov {s : SL Int} (hs : s.list.length ≤ mx) (c : Nat) : Con Try.prog 17 [s.av 1 encU] [] c fun r H' _ => r = .bool true ∧ H' = [] := by
  refine con_of c17 (by simp [F17]) ?_
  unfold F17
  simp
  refine call_fn0 (bigN_fn s) .bool fun _ _ => ?_
  by_cases hbig : (1048576 : Int) < s.list.length
  · simp [hbig]
    exact fin_plain ⟨rfl, rfl⟩
  simp [hbig]
  refine call_tree0 (drawRec (by omega)) fun r c1 _ ⟨l, ow, hr, gl, o1, o2⟩ _ => ?_
  subst hr
  simp
  have hz : ∀ x, x ∈ l.list → x.Words.list.length ≤ 1048576 := fun x hx => by have := (gl.2 x hx).w; simp only [TLine.pl] at this; omega
  have hll := gl.1
  refine call_tree0 (line_tr (impl_recO (s := l) (owner := ow) (by omega) hz)) fun r c2 _ ⟨x, hr, hx⟩ _ => ?_
  subst hr
  simp
  refine call_fn0 (spec_areLines (by unfold mx; omega)) .bool fun _ _ => ?_
  have hA := good_are gl
  have hxl : x.list.length = l.list.length := by
    have := congrArg List.length hx
    unfold recover at this
    split at this <;> simpa using this
  by_cases how : ow < 1
  · simp [hA, how, hxl]
    exact fin_plain ⟨rfl, rfl⟩
  have how' : 1 ≤ ow := by omega
  simp [hA, how]
  have hx2 : x.list.map TLine.con = (l.list.map (recL ow)).map TLine.con := by
    rw [hx]; unfold recover; rw [if_pos (by simp [hA, how'])]
  have hxA : areLines x.list = true := by rw [areLines_con' hx2]; exact good_rec gl how'
  refine loop_drop l.list.length (fun i e H c' => e 0 = s.av 1 encU ∧ e 3 = l.av 4 TLine.enc ∧ e 4 = .int .i64 ow ∧ e 5 = x.av 4 TLine.enc ∧ e 6 = .int .i64 i ∧ H = []) ⟨rfl, rfl, rfl, rfl, rfl, rfl⟩ ?_
  intro i e H c' hi ⟨e0, e3, e4, e5, e6, hH⟩ N hN
  subst hH
  by_cases h : i < l.list.length
  · have ga : l.list[i]? = some l.list[i] := List.getElem?_eq_getElem h
    have gb : x.list[i]? = some x.list[i] := List.getElem?_eq_getElem (by omega)
    have hi2 : i < x.list.length := by omega
    have hstep : IntKind.i64.wrap ((i : Int) + 1) = ((i + 1 : Nat) : Int) := by rw [step64 (by unfold mx; omega) h]; rfl
    have la := gl.2 _ (List.getElem_mem h)
    have ec : (x.list[i]).con = (recL ow l.list[i]).con := by
      have h1 := congrArg (fun l : List TLine => l[i]?) hx2
      simp only [List.getElem?_map, ga, gb, Option.map_some, Option.some.injEq] at h1
      exact h1
    generalize l.list[i] = a at ga ec la
    generalize x.list[i] = b at gb ec
    have hw1 : IntKind.i64.wrap (a.Seq + 1) = a.Seq + 1 := by
      have h1 := la.s0
      have h2 := la.s1
      simp only [TLine.pl] at h1 h2
      exact wrap64 (by omega) (by omega)
    have b1 : b.Seq = (recL ow a).Seq := by have := congrArg (fun t : TLine => t.Seq) ec; exact this
    have b2 : b.Owner = (recL ow a).Owner := by have := congrArg (fun t : TLine => t.Owner) ec; exact this
    have b3 : b.Version = (recL ow a).Version := by have := congrArg (fun t : TLine => t.Version) ec; exact this
    have b4 : b.Words.list = (recL ow a).Words.list := by
      have := congrArg (fun t : TLine => t.Words.list) ec
      simpa [TLine.con, SL.pcon] using this
    simp [e3, e4, e5, e6, h]
    refine ⟨a, ga, ?_⟩
    by_cases hoa : a.Owner = ow
    · unfold recL at b1 b2 b3
      rw [if_pos hoa] at b1 b2 b3
      simp only at b1 b2 b3
      simp [e3, e4, e5, e6, h, hi2, hoa, b1, b2, b3, hw1, hstep]
      refine ⟨b, gb, ?_⟩
      simp [e3, e4, e5, e6, h, hi2, hoa, b1, b2, b3, hw1, hstep]
      refine ⟨b, gb, ?_⟩
      simp [e3, e4, e5, e6, h, hi2, hoa, b1, b2, b3, hw1, hstep]
      refine ⟨b, gb, ?_⟩
      simp [e3, e4, e5, e6, h, hi2, hoa, b1, b2, b3, hw1, hstep]
      refine ⟨a, ga, ?_⟩
      simp [e3, e4, e5, e6, h, hi2, hoa, b1, b2, b3, hw1, hstep]
      refine ⟨a, ga, ?_⟩
      simp [e3, e4, e5, e6, h, hi2, hoa, b1, b2, b3, hw1, hstep]
      exact hN _ _ _ _ h (List.nil_sublist _) ⟨by simp [upd, e0], by simp [upd, e3], by simp [upd, e4], by simp [upd, e5], by simp [upd], rfl⟩
    · unfold recL at b1 b2 b3 b4
      rw [if_neg hoa] at b1 b2 b3 b4
      have wb : b.Words.list.length ≤ mx := by
        rw [b4]; have := la.w; simp only [TLine.pl] at this; unfold mx; omega
      simp [e3, e4, e5, e6, h, hi2, hoa, b1, b2, b3, hw1, hstep]
      refine ⟨a, ga, ?_⟩
      simp [e3, e4, e5, e6, h, hi2, hoa, b1, b2, b3, hw1, hstep]
      refine ⟨b, gb, ?_⟩
      simp [e3, e4, e5, e6, h, hi2, hoa, b1, b2, b3, hw1, hstep]
      refine ⟨a, ga, ?_⟩
      simp [e3, e4, e5, e6, h, hi2, hoa, b1, b2, b3, hw1, hstep]
      refine ⟨b, gb, ?_⟩
      simp [e3, e4, e5, e6, h, hi2, hoa, b1, b2, b3, hw1, hstep]
      refine ⟨a, ga, ?_⟩
      simp [e3, e4, e5, e6, h, hi2, hoa, b1, b2, b3, hw1, hstep]
      refine ⟨b, gb, ?_⟩
      simp [e3, e4, e5, e6, h, hi2, hoa, b1, b2, b3, hw1, hstep]
      refine ⟨a, ga, ?_⟩
      simp [e3, e4, e5, e6, h, hi2, hoa, b1, b2, b3, hw1, hstep]
      refine callF_fn0 (sameInts_fn b.Words a.Words wb) .bool fun _ _ => ?_
      simp [e3, e4, e5, e6, b4, hstep]
      exact hN _ _ _ _ h (List.nil_sublist _) ⟨by simp [upd, e0], by simp [upd, e3], by simp [upd, e4], by simp [upd, e5], by simp [upd], rfl⟩
  · have hie : i = l.list.length := by omega
    subst hie
    simp [e0, e3, e4, e5, e6]
    refine call_tree0 (drawWr (by omega)) fun r c3 _ ⟨m, k, v, ws, hr, gm, k0, k1, v0, v1, hwl⟩ _ => ?_
    subst hr
    simp
    have hzm : ∀ x, x ∈ m.list → x.Words.list.length ≤ 1048576 := fun x hx => by have := (gm.2 x hx).w; simp only [TLine.pl] at this; omega
    have hml := gm.1
    refine call_tree0 (line_tr2 wrF0 (impl_wrO (s := m) (at_ := k) (v := v) (ws := ws) (by omega) hzm (by omega))) fun r c4 _ ⟨y, q, hr, hq, hy⟩ _ => ?_
    subst hr; subst hq
    have hyl : y.list.length = m.list.length := by
      have := congrArg List.length hy
      unfold wr at this
      split at this
      · split at this <;> simpa using this
      · simpa using this
    have hzy := wr_words hzm (by omega) hy
    simp
    refine call_tree0 (flat_tr2 encI_flat rdF (impl_readO (s := y) (at_ := k) (ver := v) (by omega) hzy)) fun r c5 _ ⟨got, q, hr, hg, hq⟩ _ => ?_
    subst hr; subst hq
    have hwv : IntKind.i64.wrap (v + 1) = v + 1 := wrap64 (by omega) (by omega)
    simp [hwv]
    refine call_tree0 (flat_tr2 encI_flat rdF (impl_readO (s := y) (at_ := k) (ver := v + 1) (by omega) hzy)) fun r c6 _ ⟨got2, q, hr, hg2, hq⟩ _ => ?_
    subst hr; subst hq
    simp [e5]
    refine call_fn0 (spec_areLines (by unfold mx; omega)) .bool fun _ _ => ?_
    cases hk : wrOk m.list k v ws.list.length
    · simp [hxA, hk]
      exact fin_plain ⟨rfl, rfl⟩
    obtain ⟨r1, r2, r3⟩ := wr_reads hk hy
    simp [hxA, hk, r1, r2]
    refine call_fn0 (sameInts_fn got ws (by rw [hg, r3]; unfold mx; omega)) .bool fun _ _ => ?_
    simp
    exact fin_plain ⟨by rw [hg, r3]; simp, rfl⟩
end A
end Go.Proofs.Ytgiiipbpadgcgaa

/-
  Facts of the whole program that every row of the seat asks, each worked out once. No condition.
-/


namespace Go.Proofs.Ytgiiipbpadgcgaa.Closed
open Go.ChangeShapes Go.WideShapes Go.RowKit
theorem heard : Try.pinned.checked.prog.stopsHeard = true := by kernel_rfl
theorem enter : Try.pinned.checked.prog.mayEnter = true := by kernel_rfl
theorem make : Try.pinned.checked.prog.make = some Rows.fnExactDropHoldsRow.make := by kernel_rfl
theorem lifts : Try.pinned.checked.prog.liftsFinal = Rows.fnExactDropHoldsRow.lifted := by kernel_rfl
end Go.Proofs.Ytgiiipbpadgcgaa.Closed

/-
  FnRecovered: FnRecovered: recovering frees just the lines of the one that was killed, and what is written is read No condition.
-/



namespace Go.Proofs.Ytgiiipbpadgcgaa.fnRecovered
open Go.ChangeShapes Go.WideShapes Go.ChangeAt Go.RowKit
open Go.Proofs.Ytgiiipbpadgcgaa.A
set_option linter.unusedVariables false

theorem own : ownKnob Try.prog.godebug = none := by kernel_rfl

def types : List TypeId := [49, 5, 4]

set_option maxRecDepth 100000 in
theorem lifted (os : Os) (started : os.Started) (H : Type) (enc : TypeId × Value → H) :
    ReturnsInHanded {} Try.checked os 17 .any (Rows.fnRecoveredSpec.pre6 enc Try.prog Try.f17 Rows.fnRecoveredRow.domain false) (Rows.fnRecoveredSpec.post enc Try.prog Try.f17 false true false false) := by
  refine returnsInHanded_of_change (C := Try.checked) own started (by kernel_rfl) Try.func17
    (ChangeSpec.witness6 (enc := enc) (C := Try.checked) false ⟨#[], #[.slice none 0 0], []⟩ 8 (by kernel_rfl) (by kernel_rfl) (by kernel_rfl) (by kernel_rfl)) ?_
  intro W base args ds gs before hval0 hW hcnd _
  have hval : ∀ (j : Nat) t v, Try.f17.params[j]? = some t → args[j]? = some v → Value.okWide Try.prog W .any base t v := hval0
  refine law_post (rs := types) (bt := 4) (by kernel_rfl) (by kernel_rfl) (fun t ht => ?_) Try.underlying4 (by kernel_rfl) rfl (fun ds hds => ?_) hW hval fun l has => ?_
  · rw [Try.params17] at ht
    simp at ht
    first
      | (subst ht; exact ⟨by simp [types], by kernel_rfl, of_decide_eq_true (by kernel_rfl)⟩)
      | (rcases ht with rfl | rfl <;> exact ⟨by simp [types], by kernel_rfl, of_decide_eq_true (by kernel_rfl)⟩)
      | (rcases ht with rfl | rfl | rfl <;> exact ⟨by simp [types], by kernel_rfl, of_decide_eq_true (by kernel_rfl)⟩)
      | (rcases ht with rfl | rfl | rfl | rfl <;> exact ⟨by simp [types], by kernel_rfl, of_decide_eq_true (by kernel_rfl)⟩)
      | (rcases ht with rfl | rfl | rfl | rfl | rfl <;> exact ⟨by simp [types], by kernel_rfl, of_decide_eq_true (by kernel_rfl)⟩)
      | (rcases ht with rfl | rfl | rfl | rfl | rfl | rfl <;> exact ⟨by simp [types], by kernel_rfl, of_decide_eq_true (by kernel_rfl)⟩)
  · rw [← Array.length_toList, Try.params17] at hds
    match ds, hds with
    | [d0], _ => exact ⟨rfl, rfl, rfl⟩
  · rw [Try.params17] at has
    cases has with
    | cons h0 has =>
      cases has
      obtain ⟨n0, h0⟩ := h0
      rw [if_neg (by decide)] at h0
      obtain ⟨s0, rfl, k0⟩ := shByteS h0
      exact A.law_recov k0 _

set_option maxHeartbeats 4000000 in
theorem facts : joinedFacts Try.pinned.checked.prog 17 Try.f17 Rows.fnRecoveredSpec Rows.fnRecoveredRow = true := by
  unfold joinedFacts
  rw [Closed.heard, Closed.enter, Closed.lifts, Closed.make]
  simp only [Bool.and_eq_true]
  iterate 6 (refine ⟨?_, by as_aux_lemma => kernel_rfl⟩)
  refine ⟨⟨?_, trivial⟩, trivial⟩
  iterate 23 (refine ⟨?_, by as_aux_lemma => kernel_rfl⟩)
  kernel_rfl
theorem named : Try.pinned.checked.prog.funcNamed Rows.fnRecoveredRow.func = some 17 := by kernel_rfl
theorem inst : Try.f17.isInstance Try.pinned.checked.prog Rows.fnRecoveredRow.origin Rows.fnRecoveredRow.targs := of_decide_eq_true (by kernel_rfl)
theorem wrap : Try.f17.isWrapper Try.pinned.checked.prog Rows.fnRecoveredRow.wrapper Rows.fnRecoveredRow.mainSum := by
  unfold Func.isWrapper
  first
    | (rw [if_pos (by decide +kernel)]; kernel_rfl)
    | (rw [if_neg (by decide +kernel)]; exact ⟨rfl, rfl⟩)

theorem over : Rows.fnRecoveredRow.holds Try.pinned (OpenSpec.ofChange Rows.fnRecoveredSpec) :=
  OpenClaim.holds_of_wide 17 Try.f17 rfl rfl rfl rfl rfl rfl rfl ⟨rfl, rfl, rfl, rfl, rfl⟩ rfl rfl rfl rfl rfl named Try.func17 facts inst wrap
    (fun os started H enc _ => lifted os started H enc)

/-- THE STATEMENT -/
theorem proved : Rows.FnRecoveredSaid :=
  over
#print axioms proved
end Go.Proofs.Ytgiiipbpadgcgaa.fnRecovered
