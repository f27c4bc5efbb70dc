import Derived.Test.YtgalkppgeoknaaaGreatDoorB05

/-
  The families of helpers over slices (sizes, copies, comparisons): each once, for every element. No condition.
-/
set_option linter.unusedVariables false
set_option linter.unusedSimpArgs false
namespace Go.Proofs.YtgalkppgeoknaaaGreatDoor
namespace A
set_option linter.unusedVariables false
set_option linter.unusedSimpArgs false
def grow {α : Type} (f : α → List AV) (z : List AV) (n : Nat) (ys : List α) : List (List AV) := ys.map f ++ List.replicate (n - ys.length) z
theorem grow_nil {α : Type} (f : α → List AV) (z : List AV) (n : Nat) : grow f z n [] = List.replicate n z := by simp [grow]
theorem grow_all {α : Type} (f : α → List AV) (z : List AV) {n : Nat} {ys : List α} (h : ys.length = n) : grow f z n ys = ys.map f := by simp [grow,h]
theorem grow_get {α : Type} (f : α → List AV) (z : List AV) {n i : Nat} {ys : List α} (hi : ys.length = i) (h : i < n) : (grow f z n ys)[i]? = some z := by
  unfold grow
  rw [List.getElem?_append_right (by simp; omega),List.length_map,hi,Nat.sub_self,List.getElem?_replicate,if_pos (by omega)]
theorem grow_set {α : Type} (f : α → List AV) (z : List AV) {n i : Nat} {ys : List α} (hi : ys.length = i) (h : i < n) (y : α) : (grow f z n ys).set i (f y) = grow f z n (ys ++ [y]) := by
  unfold grow
  have e : n - ys.length = (n - (i + 1)) + 1 := by omega
  rw [e,List.replicate_succ,List.set_append_right _ _ (by simp; omega),List.length_map,hi,Nat.sub_self,List.set_cons_zero]
  simp [hi]
theorem from_agg_mem {c : Nat} {l : List AV} (h : From c (.agg l)) : ∀ a,a ∈ l → From c a := fun a ha T hT => by
  have := h T hT
  cases this with
  | agg h => obtain ⟨j,hj,e⟩ := List.mem_iff_getElem.1 ha; exact h j a (by rw [← e]; exact List.getElem?_eq_getElem hj)
theorem take_len {α : Type} (l : List α) {w : Nat} (h : l.length = w) : l.take w = l := by rw [List.take_of_length_le (by omega)]
def toSF (w : Nat) (z : List AV) (bytes g : Nat) : Fun := ⟨23,
  .seq (.reg [o 2 (.mv (.c .nsl))])
  (.seq (.reg [o 5 (.mv (.t 0)),o 6 (.lenL (.t 5)),o 7 (.mkslice w z bytes (.t 6) (.t 6)),o 3 (.mv (.t 7))])
  (.seq (.seq (.reg [o 4 (.mv (.c (.int .i64 0)))])
  (.block 0 (.loop (.seq (.seq (.reg [o 8 (.mv (.t 4)),o 9 (.mv (.t 0)),o 10 (.lenL (.t 9)),o 11 (.bin .lss (.t 8) (.t 10))])
    (.cond (.t 11) (.skip) (.exit 0)))
    (.seq (.block 1 (.reg [o 14 (.mv (.t 3)),o 15 (.mv (.t 4)),o 16 (.mv (.t 0)),o 17 (.mv (.t 4)),o 18 (.iaddr w (.t 16) (.t 17)),o 19 (.load (some w) (.t 18)),o 20 (.call g [(.t 19)]),o 21 (.iaddr w (.t 14) (.t 15)),st (.store w (.t 21) (.t 20))]))
    (.reg [o 12 (.mv (.t 4)),o 13 (.bin .add (.t 12) (.c (.int .i64 1))),o 4 (.mv (.t 13))]))))))
  (.seq (.reg [o 22 (.mv (.t 3)),o 2 (.mv (.t 22))])
  (.ret)))),
  [.tmp 2]⟩
def toPF (z : AV) (bytes : Nat) : Fun := ⟨22,
  .seq (.reg [o 2 (.mv (.c .nsl))])
  (.seq (.reg [o 5 (.mv (.t 0)),o 6 (.lenL (.t 5)),o 7 (.mkslice 1 [z] bytes (.t 6) (.t 6)),o 3 (.mv (.t 7))])
  (.seq (.seq (.reg [o 4 (.mv (.c (.int .i64 0)))])
  (.block 0 (.loop (.seq (.seq (.reg [o 8 (.mv (.t 4)),o 9 (.mv (.t 0)),o 10 (.lenL (.t 9)),o 11 (.bin .lss (.t 8) (.t 10))])
    (.cond (.t 11) (.skip) (.exit 0)))
    (.seq (.block 1 (.reg [o 14 (.mv (.t 3)),o 15 (.mv (.t 4)),o 16 (.mv (.t 0)),o 17 (.mv (.t 4)),o 18 (.iaddr 1 (.t 16) (.t 17)),o 19 (.load none (.t 18)),o 20 (.iaddr 1 (.t 14) (.t 15)),st (.store 1 (.t 20) (.t 19))]))
    (.reg [o 12 (.mv (.t 4)),o 13 (.bin .add (.t 12) (.c (.int .i64 1))),o 4 (.mv (.t 13))]))))))
  (.seq (.reg [o 21 (.mv (.t 3)),o 2 (.mv (.t 21))])
  (.ret)))),
  [.tmp 2]⟩
def szSF (w g : Nat) : Fun := ⟨27,
  .seq (.reg [o 4 (.mv (.c (.int .i64 0)))])
  (.seq (.reg [o 6 (.mv (.t 1)),o 7 (.mv (.t 0)),o 8 (.lenL (.t 7)),o 9 (.bin .sub (.t 6) (.t 8)),o 1 (.mv (.t 9))])
  (.seq (.seq (.reg [o 10 (.mv (.t 1)),o 11 (.bin .lss (.t 10) (.c (.int .i64 0)))])
  (.cond (.t 11) (.seq (.reg [o 4 (.mv (.c (.int .i64 (-1))))])
   (.ret)) (.skip)))
  (.seq (.seq (.reg [o 5 (.mv (.c (.int .i64 0)))])
  (.block 0 (.loop (.seq (.seq (.reg [o 12 (.mv (.t 5)),o 13 (.mv (.t 0)),o 14 (.lenL (.t 13)),o 15 (.bin .lss (.t 12) (.t 14))])
    (.cond (.t 15) (.skip) (.exit 0)))
    (.seq (.block 1 (.seq (.reg [o 18 (.mv (.t 0)),o 19 (.mv (.t 5)),o 20 (.iaddr w (.t 18) (.t 19)),o 21 (.load (some w) (.t 20)),o 22 (.mv (.t 1)),o 23 (.call g [(.t 21),(.t 22)]),o 1 (.mv (.t 23))])
     (.seq (.reg [o 24 (.mv (.t 1)),o 25 (.bin .lss (.t 24) (.c (.int .i64 0)))])
     (.cond (.t 25) (.seq (.reg [o 4 (.mv (.c (.int .i64 (-1))))])
      (.ret)) (.skip)))))
    (.reg [o 16 (.mv (.t 5)),o 17 (.bin .add (.t 16) (.c (.int .i64 1))),o 5 (.mv (.t 17))]))))))
  (.seq (.reg [o 26 (.mv (.t 1)),o 4 (.mv (.t 26))])
  (.ret))))),
  [.tmp 4]⟩
def eqSF (w g : Nat) : Fun := ⟨27,
  .seq (.reg [o 4 (.mv (.c (.bool false)))])
  (.seq (.seq (.reg [o 6 (.mv (.t 0)),o 7 (.lenL (.t 6)),o 8 (.mv (.t 1)),o 9 (.lenL (.t 8)),o 10 (.bin .neq (.t 7) (.t 9))])
  (.cond (.t 10) (.seq (.reg [o 4 (.mv (.c (.bool false)))])
   (.ret)) (.skip)))
  (.seq (.seq (.reg [o 5 (.mv (.c (.int .i64 0)))])
  (.block 0 (.loop (.seq (.seq (.reg [o 11 (.mv (.t 5)),o 12 (.mv (.t 0)),o 13 (.lenL (.t 12)),o 14 (.bin .lss (.t 11) (.t 13))])
    (.cond (.t 14) (.skip) (.exit 0)))
    (.seq (.block 1 (.seq (.reg [o 17 (.mv (.t 0)),o 18 (.mv (.t 5)),o 19 (.iaddr w (.t 17) (.t 18)),o 20 (.load (some w) (.t 19)),o 21 (.mv (.t 1)),o 22 (.mv (.t 5)),o 23 (.iaddr w (.t 21) (.t 22)),o 24 (.load (some w) (.t 23)),o 25 (.callF g [(.t 20),(.t 24)]),o 26 (.un .not (.t 25))])
     (.cond (.t 26) (.seq (.reg [o 4 (.mv (.c (.bool false)))])
      (.ret)) (.skip))))
    (.reg [o 15 (.mv (.t 5)),o 16 (.bin .add (.t 15) (.c (.int .i64 1))),o 5 (.mv (.t 16))]))))))
  (.seq (.reg [o 4 (.mv (.c (.bool true)))])
  (.ret)))),
  [.tmp 4]⟩
def eqPF : Fun := ⟨26,
  .seq (.reg [o 4 (.mv (.c (.bool false)))])
  (.seq (.seq (.reg [o 6 (.mv (.t 0)),o 7 (.lenL (.t 6)),o 8 (.mv (.t 1)),o 9 (.lenL (.t 8)),o 10 (.bin .neq (.t 7) (.t 9))])
  (.cond (.t 10) (.seq (.reg [o 4 (.mv (.c (.bool false)))])
   (.ret)) (.skip)))
  (.seq (.seq (.reg [o 5 (.mv (.c (.int .i64 0)))])
  (.block 0 (.loop (.seq (.seq (.reg [o 11 (.mv (.t 5)),o 12 (.mv (.t 0)),o 13 (.lenL (.t 12)),o 14 (.bin .lss (.t 11) (.t 13))])
    (.cond (.t 14) (.skip) (.exit 0)))
    (.seq (.block 1 (.seq (.reg [o 17 (.mv (.t 0)),o 18 (.mv (.t 5)),o 19 (.iaddr 1 (.t 17) (.t 18)),o 20 (.load none (.t 19)),o 21 (.mv (.t 1)),o 22 (.mv (.t 5)),o 23 (.iaddr 1 (.t 21) (.t 22)),o 24 (.load none (.t 23)),o 25 (.bin .neq (.t 20) (.t 24))])
     (.cond (.t 25) (.seq (.reg [o 4 (.mv (.c (.bool false)))])
      (.ret)) (.skip))))
    (.reg [o 15 (.mv (.t 5)),o 16 (.bin .add (.t 15) (.c (.int .i64 1))),o 5 (.mv (.t 16))]))))))
  (.seq (.reg [o 4 (.mv (.c (.bool true)))])
  (.ret)))),
  [.tmp 4]⟩
section
variable {P : Program} {α : Type} {enc : α → List AV} {con : α → α} {w : Nat} {f g : Nat}
theorem toS_fn {z : List AV} {bytes : Nat} (hf : compF P f = some (toSF w z bytes g)) (hz : z.length = w) (hw : ∀ x,(enc x).length = w) (hcell : ∀ x a,a ∈ enc x → a.cell = true) {s : SL α} (hn : s.list.length * bytes ≤ 281474976710656) (hn' : s.list.length ≤ 281474976710656)
    (hg : ∀ x,x ∈ s.list → Tr P g [.agg (enc x)] fun _ r => ∃ b,r = .agg (enc b) ∧ con b = con x) :
    Tr P f [s.av w enc] fun _ r => ∃ b : SL α,r = b.av w enc ∧ b.list.map con = s.list.map con := by
  intro c
  refine con_of hf (by simp [toSF]) ?_
  unfold toSF
  simp
  refine ⟨by omega,by omega,loop_nat s.list.length (fun i e H c' => c ≤ c' ∧ e 0 = s.av w enc ∧ e 3 = .ref 0 c w s.list.length ∧ e 4 = .int .i64 i ∧ ∃ ys : List α,ys.length = i ∧ ys.map con = (s.list.take i).map con ∧ (∀ y ∈ ys,From c (.agg (enc y))) ∧ H = [⟨false,c,w,grow enc z s.list.length ys⟩])
    ⟨by omega,rfl,rfl,rfl,[],rfl,rfl,by simp,by rw [grow_nil]⟩ ?_⟩
  intro i e H c' hi ⟨hc,e0,e3,e4,ys,hy,hcon,hfr,hH⟩ N hN
  subst hH
  simp [e0,e3,e4]
  refine ⟨fun h => ⟨s.list[i],List.getElem?_eq_getElem h,?_⟩,fun h => ?_⟩
  · simp [hw,take_len,e0,e3,e4]
    refine call_tree0 (hg _ (List.getElem_mem h)) fun r c'' hc' ⟨b,hr,hb⟩ hf => ?_
    subst hr
    simp [h,hw,e0,e3,e4]
    refine ⟨_,grow_get _ _ hy h,hN _ _ _ h ⟨by omega,by simp [upd,e0],by simp [upd,e3],by simp [upd]; exact step64 (by unfold mx; omega) h,ys ++ [b],by simp [hy],?_,?_,?_⟩⟩
    · rw [List.take_succ_eq_append_getElem h,List.map_append,List.map_append,hcon]; simp [hb]
    · intro y hym
      rcases List.mem_append.1 hym with h1 | h1
      · exact hfr y h1
      · simp at h1; subst h1; exact hf.mono hc
    · rw [putA_all (by rw [hw,hz]),grow_set _ _ hy h]
  · have : i = s.list.length := by omega
    subst this
    rw [grow_all _ _ hy]
    refine fin_slc (by simp) (by simpa using hy) (by simp; exact fun x _ a ha => hcell x a ha) ⟨rfl,⟨.mk c ys,rfl,by simpa using hcon⟩,from_slc (Nat.le_refl _) ?_⟩
    simp [e0,e3,e4]
    exact fun y hym a ha => from_agg_mem (hfr y hym) a ha
theorem szS_fn (hf : compF P f = some (szSF w g)) (hw : ∀ x,(enc x).length = w) {sz : α → Nat} {s : SL α} (hn : s.list.length ≤ mx) {left : Int} (hl : Room left)
    (hg : ∀ x,x ∈ s.list → ∀ left,Room left → Fnc P g [.agg (enc x),.int .i64 left] (.int .i64 (szOf (sz x) left))) :
    Fnc P f [s.av w enc,.int .i64 left] (.int .i64 (szOf (s.list.length + szL sz s.list) left)) := by
  refine fn_of hf (by simp [szSF]) fun c => ?_
  unfold szSF
  simp [szOf_wrap hn hl]
  constructor
  · intro h; exact fin_plain (by simp; unfold szOf; split <;> omega)
  · intro h
    refine loop_nat s.list.length (fun i e H c => e 0 = s.av w enc ∧ e 5 = .int .i64 i ∧ e 1 = .int .i64 (left - s.list.length - szL sz (s.list.take i)) ∧ 0 ≤ left - s.list.length - szL sz (s.list.take i) ∧ H = []) ⟨rfl,rfl,by simp [szL],by simpa [szL] using h,rfl⟩ ?_
    intro i e H c hi ⟨e0,e5,e1,hp,hH⟩ N hN
    subst hH
    simp [e0,e5,e1]
    refine ⟨fun h => ⟨s.list[i],List.getElem?_eq_getElem h,?_⟩,fun h => ?_⟩
    · have hr : Room (left - s.list.length - szL sz (s.list.take i)) := ⟨by omega,by have := hl.2; omega⟩
      have hst : szL sz (s.list.take (i + 1)) = szL sz (s.list.take i) + sz s.list[i] := szL_step _ _ h
      have hle := szL_le sz s.list (i + 1)
      simp [hw,take_len,e0,e5,e1]
      refine call_fn0 (hg _ (List.getElem_mem h) _ hr) .int fun c' _ => ?_
      simp [e0,e5,e1]
      unfold szOf
      split
      · refine ⟨fun h' => by omega,fun h' => hN _ _ _ h ⟨by simp [upd,e0],?_,by simp [upd]; omega,by omega,rfl⟩⟩
        simp [upd]; exact step64 hn h
      · refine ⟨fun h' => fin_plain (by rw [if_neg (by omega)]; exact ⟨rfl,rfl⟩),fun h' => by omega⟩
    · have : i = s.list.length := by omega
      subst this
      refine fin_plain ⟨?_,rfl⟩
      rw [List.take_length] at hp ⊢
      unfold szOf
      rw [if_pos (by push_cast; omega)]
      congr 1
      push_cast; omega
theorem eqS_fn (hf : compF P f = some (eqSF w g)) (hw : ∀ x,(enc x).length = w) {s t : SL α} (hn : s.list.length ≤ mx) (he : s.list.map con = t.list.map con)
    (hg : ∀ x,x ∈ s.list → ∀ y,con x = con y → Fnc P g [.agg (enc x),.agg (enc y)] (.bool true)) : Fnc P f [s.av w enc,t.av w enc] (.bool true) := by
  have hlen : s.list.length = t.list.length := by have := congrArg List.length he; simpa using this
  refine fn_of hf (by simp [eqSF]) fun c => ?_
  unfold eqSF
  simp [hlen]
  refine loop_nat s.list.length (fun i e H c => e 0 = s.av w enc ∧ e 1 = t.av w enc ∧ e 5 = .int .i64 i ∧ H = []) ⟨rfl,rfl,rfl,rfl⟩ ?_
  intro i e H c hi ⟨e0,e1,e5,hH⟩ N hN
  subst hH
  simp [e0,e1,e5]
  refine ⟨fun h => ⟨s.list[i],List.getElem?_eq_getElem h,?_⟩,fun h => fin_plain ⟨rfl,rfl⟩⟩
  have ht : i < t.list.length := by omega
  have hc : con s.list[i] = con t.list[i] := by
    have h1 : (s.list.map con)[i]? = (t.list.map con)[i]? := by rw [he]
    simpa [h,ht] using h1
  simp [hw,take_len,e0,e1,e5]
  refine ⟨t.list[i],List.getElem?_eq_getElem ht,?_⟩
  simp [hw,take_len,e0,e1,e5]
  refine callF_fn0 (hg _ (List.getElem_mem h) _ hc) .bool fun c' _ => ?_
  simp [e0,e1,e5]
  exact hN _ _ _ h ⟨by simp [upd,e0],by simp [upd,e1],by simp [upd]; exact step64 hn h,rfl⟩
theorem toP_fn {v : α → AV} {z : AV} {bytes : Nat} (hf : compF P f = some (toPF z bytes)) (hc : ∀ x,(v x).cell = true) (hfr : ∀ x c,From c (v x)) (hv : ∀ x (K : List AV → Prop),cellsW (v x) K = K [v x]) {s : SL α} (hn : s.list.length * bytes ≤ 281474976710656) (hn' : s.list.length ≤ 281474976710656) :
    Tr P f [s.av 1 fun x => [v x]] fun _ r => ∃ t,r = (SL.mk t s.list).av 1 fun x => [v x] := by
  intro c
  refine con_of hf (by simp [toPF]) ?_
  unfold toPF
  simp
  refine ⟨by omega,by omega,loop_nat s.list.length (fun i e H c' => e 0 = (s.av 1 fun x => [v x]) ∧ e 3 = .ref 0 c 1 s.list.length ∧ e 4 = .int .i64 i ∧ H = [⟨false,c,1,grow (fun x => [v x]) [z] s.list.length (s.list.take i)⟩]) ⟨rfl,rfl,rfl,by rw [List.take_zero,grow_nil]⟩ ?_⟩
  intro i e H c' hi ⟨e0,e3,e4,hH⟩ N hN
  subst hH
  simp [e0,e3,e4]
  refine ⟨fun h => ⟨s.list[i],List.getElem?_eq_getElem h,?_⟩,fun h => ?_⟩
  · have hl : (s.list.take i).length = i := by simp; omega
    simp [h,hv,e0,e3,e4]
    refine ⟨_,grow_get _ _ hl h,hN _ _ _ h ⟨by simp [upd,e0],by simp [upd,e3],by simp [upd]; exact step64 (by unfold mx; omega) h,?_⟩⟩
    rw [List.take_succ_eq_append_getElem h,← grow_set _ _ hl h]; rfl
  · have : i = s.list.length := by omega
    subst this
    rw [List.take_length,grow_all _ _ rfl]
    refine fin_slc (by simp) (by simp) (by simp; exact fun x _ => hc x) ⟨rfl,⟨c,rfl⟩,from_slc (Nat.le_refl _) ?_⟩
    simp [e0,e3,e4]
    exact fun x _ => hfr x c
theorem eqP_fn {v : α → AV} (hf : compF P f = some eqPF) (hv : ∀ x (K : AV → Prop),binW .neq (v x) (v x) K = K (.bool false)) {s t : SL α} (hn : s.list.length ≤ mx) (he : s.list = t.list) : Fnc P f [s.av 1 fun x => [v x],t.av 1 fun x => [v x]] (.bool true) := by
  refine fn_of hf (by simp [eqPF]) fun c => ?_
  unfold eqPF
  simp [← he]
  refine loop_nat s.list.length (fun i e H c => e 0 = (s.av 1 fun x => [v x]) ∧ e 1 = (t.av 1 fun x => [v x]) ∧ e 5 = .int .i64 i ∧ H = []) ⟨rfl,rfl,rfl,rfl⟩ ?_
  intro i e H c hi ⟨e0,e1,e5,hH⟩ N hN
  subst hH
  simp [e0,e1,e5]
  refine ⟨fun h => ⟨s.list[i],List.getElem?_eq_getElem h,?_⟩,fun h => fin_plain ⟨rfl,rfl⟩⟩
  simp [e0,e1,e5]
  refine ⟨s.list[i],by rw [← he]; exact List.getElem?_eq_getElem h,?_⟩
  simp [hv,e0,e1,e5]
  exact hN _ _ _ h ⟨by simp [upd,e0],by simp [upd,e1],by simp [upd]; exact step64 hn h,rfl⟩
def szPF : Fun := ⟨12,
  .seq (.reg [o 4 (.mv (.c (.int .i64 0)))])
  (.seq (.reg [o 5 (.mv (.t 1)),o 6 (.mv (.t 0)),o 7 (.lenL (.t 6)),o 8 (.bin .sub (.t 5) (.t 7)),o 1 (.mv (.t 8))])
  (.seq (.seq (.reg [o 9 (.mv (.t 1)),o 10 (.bin .lss (.t 9) (.c (.int .i64 0)))])
  (.cond (.t 10) (.seq (.reg [o 4 (.mv (.c (.int .i64 (-1))))])
   (.ret)) (.skip)))
  (.seq (.reg [o 11 (.mv (.t 1)),o 4 (.mv (.t 11))])
  (.ret)))),
  [.tmp 4]⟩
theorem szP_fn (hf : compF P f = some szPF) {s : SL α} (hn : s.list.length ≤ mx) {left : Int} (hl : Room left) : Fnc P f [s.av w enc,.int .i64 left] (.int .i64 (szOf s.list.length left)) := by
  refine fn_of hf (by simp [szPF]) fun c => ?_
  unfold szPF
  simp [szOf_wrap hn hl]
  unfold szOf
  constructor
  · intro h; exact fin_plain (by simp; omega)
  · intro h; exact fin_plain (by simp; omega)
theorem szOf_neg {n : Nat} {left : Int} (h : left < n) : szOf n left = -1 := if_neg (by omega)
theorem szOf_lt {n : Nat} {left : Int} (h : szOf n left < 0) : left < n := by unfold szOf at h; split at h <;> omega
theorem szOf_ge {n : Nat} {left : Int} (h : 0 ≤ szOf n left) : szOf n left = left - n ∧ n ≤ left := by unfold szOf at *; split at h <;> first | (rw [if_pos (by assumption)]; exact ⟨rfl,by assumption⟩) | omega
theorem szL_mem {sz : α → Nat} {l : List α} {x : α} (h : x ∈ l) : sz x ≤ szL sz l := by
  obtain ⟨i,hi,rfl⟩ := List.mem_iff_getElem.1 h
  have h1 := szL_step sz l hi
  have h2 := szL_le sz l (i + 1)
  omega
theorem szL_map {sz : α → Nat} (h : ∀ x,sz (con x) = sz x) (l : List α) : szL sz (l.map con) = szL sz l := by
  unfold szL; rw [List.map_map]; congr 1; exact List.map_congr_left fun x _ => h x
theorem sh_int {n : Nat} {t : TypeId} {k : IntKind} (hu : P.underlying t = some (.int k)) {a : AV} (h : ShC P n t [a]) : ∃ i,a = .int k i ∧ IOk k i := by
  cases n with
  | zero => exact h.elim
  | succ n => simp only [ShC,hu] at h; obtain ⟨i,h1,h2⟩ := h; cases h1; exact ⟨i,rfl,h2⟩
theorem rows_typed {ok : α → Prop} : ∀ (rows : List (List AV)),(∀ row,row ∈ rows → ∃ x,row = enc x ∧ ok x) → ∃ xs : List α,rows = xs.map enc ∧ ∀ x,x ∈ xs → ok x := by
  intro rows
  induction rows with
  | nil => intro _; exact ⟨[],rfl,by simp⟩
  | cons r rows ih =>
    intro h
    obtain ⟨x,hx,ox⟩ := h r (List.mem_cons_self ..)
    obtain ⟨xs,hxs,oxs⟩ := ih fun row hr => h row (List.mem_cons_of_mem _ hr)
    exact ⟨x :: xs,by simp [hx,hxs],by simpa using ⟨ox,oxs⟩⟩
theorem sh_slc {ok : α → Prop} {n : Nat} {t el : TypeId} (hu : P.underlying t = some (.slice el)) (hw : P.cellsOf el = w) (he : ∀ n row,ShC P n el row → ∃ x,row = enc x ∧ ok x) {a : AV} (h : ShC P n t [a]) :
    ∃ s : SL α,a = s.av w enc ∧ s.list.length ≤ mx ∧ ∀ x,x ∈ s.list → ok x := by
  cases n with
  | zero => exact h.elim
  | succ n =>
    simp only [ShC,hu] at h
    rcases h with h | ⟨tag,rows,h1,h2,h3⟩
    · cases h; exact ⟨.nil,rfl,by simp,by simp⟩
    · cases h1
      obtain ⟨xs,hxs,ox⟩ := rows_typed (enc := enc) (ok := ok) rows fun row hr => he n row (h3 row hr)
      subst hxs
      exact ⟨.mk tag xs,by rw [hw]; rfl,by simpa using h2,by simpa using ox⟩
theorem sh_struct {n : Nat} {t : TypeId} {fs : Array Field} (hu : P.underlying t = some (.struct fs)) {as0 : List AV} (h : ShC P n t as0) : ∃ m,as0.length = P.cellsOf t ∧ ∀ f,f ∈ fs.toList → ShC P m f.type ((as0.drop f.offset).take (P.cellsOf f.type)) := by
  cases n with
  | zero => exact h.elim
  | succ n => simp only [ShC,hu] at h; exact ⟨n,h⟩
def fieldsAre (P : Program) (t : TypeId) (l : List (TypeId × Nat)) : Bool :=
  match P.underlying t with
  | some (.struct fs) => (fs.toList.map fun f => (f.type,f.offset)) == l
  | _ => false
theorem sh_fields {n : Nat} {t : TypeId} {l : List (TypeId × Nat)} (hu : fieldsAre P t l = true) {as0 : List AV} (h : ShC P n t as0) : ∃ m,as0.length = P.cellsOf t ∧ ∀ p,p ∈ l → ShC P m p.1 ((as0.drop p.2).take (P.cellsOf p.1)) := by
  unfold fieldsAre at hu
  split at hu
  · rename_i fs hfs
    simp only [beq_iff_eq] at hu
    obtain ⟨m,h1,h2⟩ := sh_struct hfs h
    refine ⟨m,h1,fun p hp => ?_⟩
    rw [← hu] at hp
    obtain ⟨f,hf,rfl⟩ := List.mem_map.1 hp
    exact h2 f hf
  · cases hu
theorem sh_int1 {n : Nat} {t : TypeId} {k : IntKind} (hu : P.underlying t = some (.int k)) {row : List AV} (h : ShC P n t row) : ∃ i,row = [.int k i] ∧ IOk k i := by
  cases n with
  | zero => exact h.elim
  | succ n => simp only [ShC,hu] at h; exact h
end
set_option maxRecDepth 100000
def szIntS (s : SL Int) : Nat := s.list.length
def okIntS (s : SL Int) : Prop := s.list.length ≤ mx ∧ ∀ x,x ∈ s.list → IOk .i64 x
theorem shIntS {n : Nat} {a : AV} (h : ShC Tryz.prog n 47 [a]) : ∃ s : SL Int,a = s.av 1 encI ∧ okIntS s := by
  obtain ⟨s,h1,h2,h3⟩ := sh_slc (P := Tryz.prog) (t := 47) (el := 3) (w := 1) (enc := encI) (ok := fun x => IOk .i64 x) (by kernel_rfl) (by kernel_rfl) (fun n row h => by obtain ⟨i,h1,h2⟩ := sh_int1 (k := .i64) (P := Tryz.prog) (t := 3) (by kernel_rfl) h; exact ⟨i,h1,h2⟩) h
  exact ⟨s,h1,h2,h3⟩
theorem szIntS_fn {s : SL Int} (hs : okIntS s) {left : Int} (hl : Room left) : Fnc Tryz.prog 48 [s.av 1 encI,.int .i64 left] (.int .i64 (szOf (szIntS s) left)) := szP_fn c48 hs.1 hl
theorem toIntS_fn {s : SL Int} (h : szIntS s ≤ 1048576) : Tr Tryz.prog 55 [s.av 1 encI] fun _ r => ∃ t,r = (SL.mk t s.list).av 1 encI := by
  unfold szIntS at h
  exact toP_fn (v := fun n => .int .i64 n) (z := .int .i64 0) (bytes := 8) c55 (fun _ => rfl) (fun _ _ => by simp) (fun _ _ => rfl) (by omega) (by omega)
theorem eqIntS_fn {s t : SL Int} (h : szIntS s ≤ 1099511627776) (he : s.list = t.list) : Fnc Tryz.prog 67 [s.av 1 encI,t.av 1 encI] (.bool true) := by
  unfold szIntS at h
  exact eqP_fn (v := fun n => .int .i64 n) c67 (fun x K => by simp) (by unfold mx; omega) he
structure TLine where
  Seq : Int
  Owner : Int
  Version : Int
  Words : SL Int
def TLine.enc (s : TLine) : List AV := [.int .i64 s.Seq,.int .i64 s.Owner,.int .i64 s.Version,s.Words.av 1 encI]
@[simp] theorem TLine.len (s : TLine) : s.enc.length = 4 := (rfl)
@[simp] theorem TLine.all (s : TLine) : s.enc.take 4 = s.enc := (rfl)
@[simp] theorem TLine.g0 (s : TLine) (K : AV → Prop) : getW s.enc 0 K = K (.int .i64 s.Seq) := by simp [TLine.enc]
@[simp] theorem TLine.g1 (s : TLine) (K : AV → Prop) : getW s.enc 1 K = K (.int .i64 s.Owner) := by simp [TLine.enc]
@[simp] theorem TLine.g2 (s : TLine) (K : AV → Prop) : getW s.enc 2 K = K (.int .i64 s.Version) := by simp [TLine.enc]
@[simp] theorem TLine.g3 (s : TLine) (K : AV → Prop) : getW s.enc 3 K = K (s.Words.av 1 encI) := by simp [TLine.enc]
theorem TLine.cells (s : TLine) : ∀ a,a ∈ s.enc → a.cell = true := by simp [TLine.enc]
def TLine.sz (s : TLine) : Nat := (szIntS s.Words)
def TLine.ok (s : TLine) : Prop := okIntS s.Words
def TLine.con (s : TLine) : TLine := { s with Words := s.Words.pcon }
theorem TLine.sz_con (s : TLine) : s.con.sz = s.sz := by
  simp [TLine.sz,TLine.con,szIntS]
theorem TLine.sh : ∀ (n : Nat) (row : List AV),ShC Tryz.prog n 49 row → ∃ s : TLine,row = s.enc ∧ s.ok := by
  intro n row h
  obtain ⟨m,hl,hf⟩ := sh_fields (l := [(3,0),(3,1),(3,2),(47,3)]) (by kernel_rfl) h
  have hl' : row.length = 4 := hl.trans (by kernel_rfl)
  match row,hl' with
  | [x0,x1,x2,x3],_ =>
    have h0 := hf (3,0) (by simp)
    rw [show Tryz.prog.cellsOf 3 = 1 by kernel_rfl] at h0
    obtain ⟨v0,rfl,_⟩ := sh_int (k := .i64) (t := 3) (by kernel_rfl) (show ShC Tryz.prog m 3 [x0] from h0)
    have h1 := hf (3,1) (by simp)
    rw [show Tryz.prog.cellsOf 3 = 1 by kernel_rfl] at h1
    obtain ⟨v1,rfl,_⟩ := sh_int (k := .i64) (t := 3) (by kernel_rfl) (show ShC Tryz.prog m 3 [x1] from h1)
    have h2 := hf (3,2) (by simp)
    rw [show Tryz.prog.cellsOf 3 = 1 by kernel_rfl] at h2
    obtain ⟨v2,rfl,_⟩ := sh_int (k := .i64) (t := 3) (by kernel_rfl) (show ShC Tryz.prog m 3 [x2] from h2)
    have h3 := hf (47,3) (by simp)
    rw [show Tryz.prog.cellsOf 47 = 1 by kernel_rfl] at h3
    obtain ⟨v3,rfl,k3⟩ := shIntS (show ShC Tryz.prog m 47 [x3] from h3)
    exact ⟨⟨v0,v1,v2,v3⟩,rfl,k3⟩
theorem TLine.sz_fn {s : TLine} (hs : s.ok) {left : Int} (hl : Room left) : Fnc Tryz.prog 19 [.agg s.enc,.int .i64 left] (.int .i64 (szOf s.sz left)) := by
  unfold TLine.ok at hs
  have hr := hl.2
  refine fn_of c19 (by simp [F19]) fun c => ?_
  unfold F19
  simp
  refine call_fn0 (szIntS_fn hs hl) .int fun _ _ => ?_
  simp
  refine ⟨fun h => fin_plain ⟨by have := szOf_lt h; rw [szOf_neg (by simp only [TLine.sz]; omega)],rfl⟩,fun h => ?_⟩
  obtain ⟨h0,k0⟩ := szOf_ge h
  rw [h0]
  have hz : s.sz = (szIntS s.Words) := rfl
  have e : szOf s.sz left = left - ((szIntS s.Words) : Int) := by
    unfold szOf
    rw [if_pos (by omega)]
    omega
  exact fin_plain ⟨by rw [e],rfl⟩
theorem TLine.to_fn {s : TLine} (h : s.sz ≤ 1048576) : Tr Tryz.prog 26 [.agg s.enc] fun _ r => ∃ b : TLine,r = .agg b.enc ∧ b.con = s.con := by
  simp only [TLine.sz] at h
  intro c
  refine con_of c26 (by simp [F26]) ?_
  unfold F26
  simp [putA]
  refine call_tree0 (toIntS_fn (by omega)) fun r3 c3 hc3 ⟨t3,e3⟩ f3 => ?_
  subst e3
  simp [putA]
  refine fin_plain ⟨rfl,⟨⟨s.Seq,s.Owner,s.Version,.mk t3 s.Words.list⟩,rfl,?_⟩,from_agg ?_⟩
  · simp [TLine.con,SL.con,SL.pcon]
  · simp
    exact f3.mono (by omega)
theorem TLine.eq_fn {a b : TLine} (h : a.sz ≤ 1099511627776) (he : a.con = b.con) : Fnc Tryz.prog 33 [.agg a.enc,.agg b.enc] (.bool true) := by
  simp only [TLine.sz] at h
  have e0 : a.Seq = b.Seq := (congrArg TLine.Seq he : a.con.Seq = b.con.Seq)
  have e1 : a.Owner = b.Owner := (congrArg TLine.Owner he : a.con.Owner = b.con.Owner)
  have e2 : a.Version = b.Version := (congrArg TLine.Version he : a.con.Version = b.con.Version)
  have e3 : a.Words.list = b.Words.list := congrArg (fun s => s.Words.list) he
  refine fn_of c33 (by simp [F33]) fun c => ?_
  unfold F33
  simp [e0,e1,e2]
  refine call_fn0 (eqIntS_fn (by omega) e3) .bool fun _ _ => ?_
  simp [e0,e1,e2]
  exact fin_plain ⟨rfl,rfl⟩
def szLineS (s : SL TLine) : Nat := s.list.length + szL TLine.sz s.list
def okLineS (s : SL TLine) : Prop := s.list.length ≤ mx ∧ ∀ x,x ∈ s.list → TLine.ok x
theorem szLineS_con {s t : SL TLine} (h : s.list.map TLine.con = t.list.map TLine.con) : szLineS s = szLineS t := by
  unfold szLineS
  rw [← szL_map (con := TLine.con) TLine.sz_con s.list,← szL_map (con := TLine.con) TLine.sz_con t.list,h]
  have := congrArg List.length h; simp at this; rw [this]
theorem shLineS {n : Nat} {a : AV} (h : ShC Tryz.prog n 22 [a]) : ∃ s : SL TLine,a = s.av 4 TLine.enc ∧ okLineS s := by
  obtain ⟨s,h1,h2,h3⟩ := sh_slc (P := Tryz.prog) (t := 22) (el := 49) (w := 4) (enc := TLine.enc) (ok := TLine.ok) (by kernel_rfl) (by kernel_rfl) (TLine.sh) h
  exact ⟨s,h1,h2,h3⟩
theorem szLineS_fn {s : SL TLine} (hs : okLineS s) {left : Int} (hl : Room left) : Fnc Tryz.prog 5 [s.av 4 TLine.enc,.int .i64 left] (.int .i64 (szOf (szLineS s) left)) :=
  szS_fn (g := 19) c5 (fun _ => rfl) hs.1 hl fun x hx left hl => TLine.sz_fn (hs.2 x hx) hl
theorem toLineS_fn {s : SL TLine} (h : szLineS s ≤ 1048576) : Tr Tryz.prog 8 [s.av 4 TLine.enc] fun _ r => ∃ b : SL TLine,r = b.av 4 TLine.enc ∧ b.list.map TLine.con = s.list.map TLine.con := by
  unfold szLineS at h
  exact toS_fn (g := 26) (z := [.int .i64 0,.int .i64 0,.int .i64 0,.nsl]) (bytes := 48) c8 rfl (fun _ => rfl) (fun x => TLine.cells x) (by omega) (by omega) fun x hx => TLine.to_fn (by have := szL_mem (sz := TLine.sz) hx; omega)
theorem eqLineS_fn {s t : SL TLine} (h : szLineS s ≤ 1099511627776) (he : s.list.map TLine.con = t.list.map TLine.con) : Fnc Tryz.prog 11 [s.av 4 TLine.enc,t.av 4 TLine.enc] (.bool true) := by
  unfold szLineS at h
  exact eqS_fn (g := 33) (con := TLine.con) c11 (fun _ => rfl) (by unfold mx; omega) he fun x hx y hxy => TLine.eq_fn (by have := szL_mem (sz := TLine.sz) hx; omega) hxy
structure TParam where
  Name : List UInt8
  Ref : Bool
def TParam.enc (s : TParam) : List AV := [.str s.Name,.bool s.Ref]
@[simp] theorem TParam.len (s : TParam) : s.enc.length = 2 := (rfl)
@[simp] theorem TParam.all (s : TParam) : s.enc.take 2 = s.enc := (rfl)
@[simp] theorem TParam.g0 (s : TParam) (K : AV → Prop) : getW s.enc 0 K = K (.str s.Name) := by simp [TParam.enc]
@[simp] theorem TParam.g1 (s : TParam) (K : AV → Prop) : getW s.enc 1 K = K (.bool s.Ref) := by simp [TParam.enc]
def TParam.sz (s : TParam) : Nat := s.Name.length
def TParam.ok (s : TParam) : Prop := s.Name.length ≤ mx
def TParam.con (s : TParam) : TParam := s
theorem TParam.sz_con (s : TParam) : s.con.sz = s.sz := rfl
theorem TParam.eq_fn {a b : TParam} (h : a.sz ≤ 1099511627776) (he : a.con = b.con) : Fnc Tryz.prog 158 [.agg a.enc,.agg b.enc] (.bool true) := by
  simp only [TParam.sz] at h
  have e0 : a.Name = b.Name := (congrArg TParam.Name he : a.con.Name = b.con.Name)
  have e1 : a.Ref = b.Ref := (congrArg TParam.Ref he : a.con.Ref = b.con.Ref)
  refine fn_of c158 (by simp [F158]) fun c => ?_
  unfold F158
  simp [e0,e1]
  exact fin_plain ⟨rfl,rfl⟩
def szParamS (s : SL TParam) : Nat := s.list.length + szL TParam.sz s.list
def okParamS (s : SL TParam) : Prop := s.list.length ≤ mx ∧ ∀ x,x ∈ s.list → TParam.ok x
theorem eqParamS_fn {s t : SL TParam} (h : szParamS s ≤ 1099511627776) (he : s.list.map TParam.con = t.list.map TParam.con) : Fnc Tryz.prog 114 [s.av 2 TParam.enc,t.av 2 TParam.enc] (.bool true) := by
  unfold szParamS at h
  exact eqS_fn (g := 158) (con := TParam.con) c114 (fun _ => rfl) (by unfold mx; omega) he fun x hx y hxy => TParam.eq_fn (by have := szL_mem (sz := TParam.sz) hx; omega) hxy
def szStringS (s : SL (List UInt8)) : Nat := s.list.length + szL List.length s.list
def okStringS (s : SL (List UInt8)) : Prop := s.list.length ≤ mx ∧ ∀ x,x ∈ s.list → x.length ≤ mx
theorem eqStringS_fn {s t : SL (List UInt8)} (h : szStringS s ≤ 1099511627776) (he : s.list = t.list) : Fnc Tryz.prog 115 [s.av 1 encS,t.av 1 encS] (.bool true) := by
  unfold szStringS at h
  exact eqP_fn (v := fun l => .str l) c115 (fun x K => by simp) (by unfold mx; omega) he
structure TIns where
  Op : Int
  A : Int
  B : Int
  S : List UInt8
  T : List UInt8
def TIns.enc (s : TIns) : List AV := [.int .i64 s.Op,.int .i64 s.A,.int .i64 s.B,.str s.S,.str s.T]
@[simp] theorem TIns.len (s : TIns) : s.enc.length = 5 := (rfl)
@[simp] theorem TIns.all (s : TIns) : s.enc.take 5 = s.enc := (rfl)
@[simp] theorem TIns.g0 (s : TIns) (K : AV → Prop) : getW s.enc 0 K = K (.int .i64 s.Op) := by simp [TIns.enc]
@[simp] theorem TIns.g1 (s : TIns) (K : AV → Prop) : getW s.enc 1 K = K (.int .i64 s.A) := by simp [TIns.enc]
@[simp] theorem TIns.g2 (s : TIns) (K : AV → Prop) : getW s.enc 2 K = K (.int .i64 s.B) := by simp [TIns.enc]
@[simp] theorem TIns.g3 (s : TIns) (K : AV → Prop) : getW s.enc 3 K = K (.str s.S) := by simp [TIns.enc]
@[simp] theorem TIns.g4 (s : TIns) (K : AV → Prop) : getW s.enc 4 K = K (.str s.T) := by simp [TIns.enc]
def TIns.sz (s : TIns) : Nat := s.S.length + s.T.length
def TIns.ok (s : TIns) : Prop := s.S.length ≤ mx ∧ s.T.length ≤ mx
def TIns.con (s : TIns) : TIns := s
theorem TIns.sz_con (s : TIns) : s.con.sz = s.sz := rfl
theorem TIns.eq_fn {a b : TIns} (h : a.sz ≤ 1099511627776) (he : a.con = b.con) : Fnc Tryz.prog 159 [.agg a.enc,.agg b.enc] (.bool true) := by
  simp only [TIns.sz] at h
  have e0 : a.Op = b.Op := (congrArg TIns.Op he : a.con.Op = b.con.Op)
  have e1 : a.A = b.A := (congrArg TIns.A he : a.con.A = b.con.A)
  have e2 : a.B = b.B := (congrArg TIns.B he : a.con.B = b.con.B)
  have e3 : a.S = b.S := (congrArg TIns.S he : a.con.S = b.con.S)
  have e4 : a.T = b.T := (congrArg TIns.T he : a.con.T = b.con.T)
  refine fn_of c159 (by simp [F159]) fun c => ?_
  unfold F159
  simp [e0,e1,e2,e3,e4]
  exact fin_plain ⟨rfl,rfl⟩
def szInsS (s : SL TIns) : Nat := s.list.length + szL TIns.sz s.list
def okInsS (s : SL TIns) : Prop := s.list.length ≤ mx ∧ ∀ x,x ∈ s.list → TIns.ok x
theorem eqInsS_fn {s t : SL TIns} (h : szInsS s ≤ 1099511627776) (he : s.list.map TIns.con = t.list.map TIns.con) : Fnc Tryz.prog 116 [s.av 5 TIns.enc,t.av 5 TIns.enc] (.bool true) := by
  unfold szInsS at h
  exact eqS_fn (g := 159) (con := TIns.con) c116 (fun _ => rfl) (by unfold mx; omega) he fun x hx y hxy => TIns.eq_fn (by have := szL_mem (sz := TIns.sz) hx; omega) hxy
structure TFunc where
  Name : List UInt8
  Params : SL TParam
  Uses : SL TParam
  Slots : SL (List UInt8)
  Gen : Bool
  Code : SL TIns
def TFunc.enc (s : TFunc) : List AV := [.str s.Name,s.Params.av 2 TParam.enc,s.Uses.av 2 TParam.enc,s.Slots.av 1 encS,.bool s.Gen,s.Code.av 5 TIns.enc]
@[simp] theorem TFunc.len (s : TFunc) : s.enc.length = 6 := (rfl)
@[simp] theorem TFunc.all (s : TFunc) : s.enc.take 6 = s.enc := (rfl)
@[simp] theorem TFunc.g0 (s : TFunc) (K : AV → Prop) : getW s.enc 0 K = K (.str s.Name) := by simp [TFunc.enc]
@[simp] theorem TFunc.g1 (s : TFunc) (K : AV → Prop) : getW s.enc 1 K = K (s.Params.av 2 TParam.enc) := by simp [TFunc.enc]
@[simp] theorem TFunc.g2 (s : TFunc) (K : AV → Prop) : getW s.enc 2 K = K (s.Uses.av 2 TParam.enc) := by simp [TFunc.enc]
@[simp] theorem TFunc.g3 (s : TFunc) (K : AV → Prop) : getW s.enc 3 K = K (s.Slots.av 1 encS) := by simp [TFunc.enc]
@[simp] theorem TFunc.g4 (s : TFunc) (K : AV → Prop) : getW s.enc 4 K = K (.bool s.Gen) := by simp [TFunc.enc]
@[simp] theorem TFunc.g5 (s : TFunc) (K : AV → Prop) : getW s.enc 5 K = K (s.Code.av 5 TIns.enc) := by simp [TFunc.enc]
theorem TFunc.cells (s : TFunc) : ∀ a,a ∈ s.enc → a.cell = true := by simp [TFunc.enc]
def TFunc.sz (s : TFunc) : Nat := s.Name.length + (szParamS s.Params) + (szParamS s.Uses) + (szStringS s.Slots) + (szInsS s.Code)
def TFunc.ok (s : TFunc) : Prop := s.Name.length ≤ mx ∧ okParamS s.Params ∧ okParamS s.Uses ∧ okStringS s.Slots ∧ okInsS s.Code
def TFunc.con (s : TFunc) : TFunc := { s with Params := s.Params.con TParam.con,Uses := s.Uses.con TParam.con,Slots := s.Slots.pcon,Code := s.Code.con TIns.con }
theorem TFunc.sz_con (s : TFunc) : s.con.sz = s.sz := by
  simp [TFunc.sz,TFunc.con,szParamS,szParamS,szStringS,szInsS,szL_map TParam.sz_con,szL_map TParam.sz_con,szL_map TIns.sz_con]
theorem TFunc.eq_fn {a b : TFunc} (h : a.sz ≤ 1099511627776) (he : a.con = b.con) : Fnc Tryz.prog 68 [.agg a.enc,.agg b.enc] (.bool true) := by
  simp only [TFunc.sz] at h
  have e0 : a.Name = b.Name := (congrArg TFunc.Name he : a.con.Name = b.con.Name)
  have e1 : a.Params.list.map TParam.con = b.Params.list.map TParam.con := congrArg (fun s => s.Params.list) he
  have e2 : a.Uses.list.map TParam.con = b.Uses.list.map TParam.con := congrArg (fun s => s.Uses.list) he
  have e3 : a.Slots.list = b.Slots.list := congrArg (fun s => s.Slots.list) he
  have e4 : a.Gen = b.Gen := (congrArg TFunc.Gen he : a.con.Gen = b.con.Gen)
  have e5 : a.Code.list.map TIns.con = b.Code.list.map TIns.con := congrArg (fun s => s.Code.list) he
  refine fn_of c68 (by simp [F68]) fun c => ?_
  unfold F68
  simp [e0,e4]
  refine call_fn0 (eqParamS_fn (by omega) e1) .bool fun _ _ => ?_
  simp [e0,e4]
  refine call_fn0 (eqParamS_fn (by omega) e2) .bool fun _ _ => ?_
  simp [e0,e4]
  refine call_fn0 (eqStringS_fn (by omega) e3) .bool fun _ _ => ?_
  simp [e0,e4]
  refine call_fn0 (eqInsS_fn (by omega) e5) .bool fun _ _ => ?_
  simp [e0,e4]
  exact fin_plain ⟨rfl,rfl⟩
def szFuncS (s : SL TFunc) : Nat := s.list.length + szL TFunc.sz s.list
def okFuncS (s : SL TFunc) : Prop := s.list.length ≤ mx ∧ ∀ x,x ∈ s.list → TFunc.ok x
theorem eqFuncS_fn {s t : SL TFunc} (h : szFuncS s ≤ 1099511627776) (he : s.list.map TFunc.con = t.list.map TFunc.con) : Fnc Tryz.prog 34 [s.av 6 TFunc.enc,t.av 6 TFunc.enc] (.bool true) := by
  unfold szFuncS at h
  exact eqS_fn (g := 68) (con := TFunc.con) c34 (fun _ => rfl) (by unfold mx; omega) he fun x hx y hxy => TFunc.eq_fn (by have := szL_mem (sz := TFunc.sz) hx; omega) hxy
structure TMethod where
  Name : List UInt8
  Owner : List UInt8
  From : List UInt8
  Private : Bool
  Static : Bool
def TMethod.enc (s : TMethod) : List AV := [.str s.Name,.str s.Owner,.str s.From,.bool s.Private,.bool s.Static]
@[simp] theorem TMethod.len (s : TMethod) : s.enc.length = 5 := (rfl)
@[simp] theorem TMethod.all (s : TMethod) : s.enc.take 5 = s.enc := (rfl)
@[simp] theorem TMethod.g0 (s : TMethod) (K : AV → Prop) : getW s.enc 0 K = K (.str s.Name) := by simp [TMethod.enc]
@[simp] theorem TMethod.g1 (s : TMethod) (K : AV → Prop) : getW s.enc 1 K = K (.str s.Owner) := by simp [TMethod.enc]
@[simp] theorem TMethod.g2 (s : TMethod) (K : AV → Prop) : getW s.enc 2 K = K (.str s.From) := by simp [TMethod.enc]
@[simp] theorem TMethod.g3 (s : TMethod) (K : AV → Prop) : getW s.enc 3 K = K (.bool s.Private) := by simp [TMethod.enc]
@[simp] theorem TMethod.g4 (s : TMethod) (K : AV → Prop) : getW s.enc 4 K = K (.bool s.Static) := by simp [TMethod.enc]
def TMethod.sz (s : TMethod) : Nat := s.Name.length + s.Owner.length + s.From.length
def TMethod.ok (s : TMethod) : Prop := s.Name.length ≤ mx ∧ s.Owner.length ≤ mx ∧ s.From.length ≤ mx
def TMethod.con (s : TMethod) : TMethod := s
theorem TMethod.sz_con (s : TMethod) : s.con.sz = s.sz := rfl
theorem TMethod.eq_fn {a b : TMethod} (h : a.sz ≤ 1099511627776) (he : a.con = b.con) : Fnc Tryz.prog 161 [.agg a.enc,.agg b.enc] (.bool true) := by
  simp only [TMethod.sz] at h
  have e0 : a.Name = b.Name := (congrArg TMethod.Name he : a.con.Name = b.con.Name)
  have e1 : a.Owner = b.Owner := (congrArg TMethod.Owner he : a.con.Owner = b.con.Owner)
  have e2 : a.From = b.From := (congrArg TMethod.From he : a.con.From = b.con.From)
  have e3 : a.Private = b.Private := (congrArg TMethod.Private he : a.con.Private = b.con.Private)
  have e4 : a.Static = b.Static := (congrArg TMethod.Static he : a.con.Static = b.con.Static)
  refine fn_of c161 (by simp [F161]) fun c => ?_
  unfold F161
  simp [e0,e1,e2,e3,e4]
  exact fin_plain ⟨rfl,rfl⟩
def szMethodS (s : SL TMethod) : Nat := s.list.length + szL TMethod.sz s.list
def okMethodS (s : SL TMethod) : Prop := s.list.length ≤ mx ∧ ∀ x,x ∈ s.list → TMethod.ok x
theorem eqMethodS_fn {s t : SL TMethod} (h : szMethodS s ≤ 1099511627776) (he : s.list.map TMethod.con = t.list.map TMethod.con) : Fnc Tryz.prog 118 [s.av 5 TMethod.enc,t.av 5 TMethod.enc] (.bool true) := by
  unfold szMethodS at h
  exact eqS_fn (g := 161) (con := TMethod.con) c118 (fun _ => rfl) (by unfold mx; omega) he fun x hx y hxy => TMethod.eq_fn (by have := szL_mem (sz := TMethod.sz) hx; omega) hxy
section
variable {P : Program} {H : List AObj} {c : Nat} {K : AV → List AObj → Nat → Prop}
theorem call_con {f : Nat} {as0 : List AV} {Q : AV → List AObj → Nat → Prop} (hf : Con P f as0 H c Q)
    (k : ∀ r H' c',c ≤ c' → Q r H' c' → (∀ t,t < c → t ∈ tags H' → t ∈ tags H) → (tags H').Nodup → Av [] r ∧ (∀ o,o ∈ H' → AvRows [] o) ∧ K r H' c') : CallW P f as0 H c K := by
  intro hn hlt
  obtain ⟨h1,h2⟩ := (Views.refl [] as0).spec
  refine ⟨H,[],as0,Q,List.Sublist.refl _,by simp,by simp [tags],h1,h2,hf,fun r H' c' hc hq ho hd => ?_⟩
  obtain ⟨k1,k2,k3⟩ := k r H' c' hc hq ho hd
  exact ⟨H',r,fun o h => .inl h,hd,.refl r,k1,fun o h _ => k2 o h,k3⟩
theorem call_new {f : Nat} {as0 as' : List AV} {Q : AV → List AObj → Nat → Prop} (hf : Con P f as' [] c Q) (hv : Views H as0 as')
    (k : ∀ r O c',c ≤ c' → Q r O c' → (∀ t,t ∈ tags O → c ≤ t) → (tags O).Nodup → ∃ r',View [] r r' ∧ Av (tags H) r' ∧ (∀ o,o ∈ O → AvRows (tags H) o) ∧ K r' (H ++ O) c') : CallW P f as0 H c K := by
  intro hn hlt
  obtain ⟨h1,h2⟩ := hv.spec
  refine ⟨[],H,as',Q,List.nil_sublist _,fun o h => h,by simp [tags],h1,h2,hf,fun r O c' hc hq ho hd => ?_⟩
  have hfresh : ∀ t,t ∈ tags O → c ≤ t := fun t ht => by
    rcases Nat.lt_or_ge t c with h | h
    · have := ho t h ht; simp [tags] at this
    · exact h
  obtain ⟨r',k1,k2,k3,k4⟩ := k r O c' hc hq hfresh hd
  refine ⟨H ++ O,r',fun o h => ?_,?_,k1,k2,fun o _ h => k3 o h,k4⟩
  · rcases List.mem_append.1 h with h | h
    · exact .inr ⟨h,by simp [tags]⟩
    · exact .inl h
  · have : tags (H ++ O) = tags H ++ tags O := by simp [tags]
    rw [this]
    refine List.nodup_append.2 ⟨hn,hd,fun a ha b hb hab => ?_⟩
    subst hab
    exact absurd (hlt a ha) (Nat.not_lt.2 (hfresh a hb))
theorem call_mid {f : Nat} {as0 as' : List AV} {A B C : List AObj} {Q : AV → List AObj → Nat → Prop} (hf : Con P f as' B c Q) (hv : Views [] as0 as')
    (k : ∀ r B' c',c ≤ c' → Q r B' c' → tags B' = tags B ∧ Av [] r ∧ (∀ o,o ∈ B' → AvRows [] o) ∧ K r (A ++ B' ++ C) c') : CallW P f as0 (A ++ B ++ C) c K := by
  intro hn hlt
  obtain ⟨h1,h2⟩ := hv.spec
  have hsub : B.Sublist (A ++ B ++ C) := (List.sublist_append_right A B).trans (List.sublist_append_left _ _)
  refine ⟨B,[],as',Q,hsub,by simp,by simp [tags],h1,h2,hf,fun r B' c' hc hq ho hd => ?_⟩
  obtain ⟨k0,k1,k2,k3⟩ := k r B' c' hc hq
  have e : ∀ X,tags (A ++ X ++ C) = tags A ++ tags X ++ tags C := fun X => by simp [tags]
  have hn' := hn
  rw [e] at hn'
  refine ⟨A ++ B' ++ C,r,fun o h => ?_,by rw [e,k0,← e]; exact hn,.refl r,k1,fun o _ h => k2 o h,k3⟩
  rw [List.append_assoc] at h
  have hAB := List.nodup_append.1 hn'
  have hA := List.nodup_append.1 hAB.1
  rcases List.mem_append.1 h with h | h
  · exact .inr ⟨by simp [h],fun hb => hA.2.2 _ (mem_tags h) _ hb rfl⟩
  · rcases List.mem_append.1 h with h | h
    · exact .inl h
    · exact .inr ⟨by simp [h],fun hb => hAB.2.2 _ (List.mem_append_right _ hb) _ (mem_tags h) rfl⟩
@[simp] theorem callvW_fn (f : Nat) (caps as0 : List AV) : callvW P (.fn f caps) as0 H c K = (bodyOk P f = true ∧ CallW P f (as0 ++ caps) H c K) := (rfl)
theorem fin_all {Q : AV → List AObj → Nat → Prop} {v : AV} (h : Q v H c) : finW Q v H c := ⟨[],H,H,v,List.Sublist.refl _,.refl _ _,by simp,by simp [tags],.refl v,h⟩
theorem avRows_of {T : List Nat} {o : AObj} (h : ∀ row,row ∈ o.rows → ∀ a,a ∈ row → Av T a) : AvRows T o := fun r j x a hr ha => h x (List.mem_of_getElem? hr) a (List.mem_of_getElem? ha)
theorem view_ref {α : Type} {enc : α → List AV} {S : List AObj} {i tag w n : Nat} {l : List α} (ho : (⟨false,tag,w,l.map enc⟩ : AObj) ∈ S) (hn : l.length = n) (hc : ∀ x,x ∈ l → ∀ a,a ∈ enc x → a.cell = true) : View S (.ref i tag w n) ((SL.mk tag l).av w enc) :=
  .ref ho (by simp; omega) (by simp [hn]) (fun r x x' h1 h2 => by rw [h1] at h2; cases h2; rfl)
    (fun r j x a hx ha => by
      obtain ⟨y,hy,rfl⟩ := List.mem_map.1 (List.mem_of_getElem? hx)
      exact hc y hy a (List.mem_of_getElem? ha))
    fun r j x x' a a' h1 h2 h3 h4 => by rw [h1] at h2; cases h2; rw [h3] at h4; cases h4; exact .refl _
@[simp high] theorem getW_set {α : Type} (l : List α) (i : Nat) (x : α) (K : α → Prop) : getW (l.set i x) i K = (i < l.length ∧ K x) := by
  unfold getW
  apply propext
  constructor
  · rintro ⟨y,h1,h2⟩
    have hi : i < l.length := by simpa using (List.getElem?_eq_some_iff.1 h1).1
    rw [List.getElem?_set_self hi] at h1
    cases h1
    exact ⟨hi,h2⟩
  · rintro ⟨hi,h2⟩
    exact ⟨x,List.getElem?_set_self hi,h2⟩
def mks {α : Type} (mk : Int → α → α) (cnt : α → Nat) : Int → List α → List α
  | _,[] => []
  | k,x :: l => mk k x :: mks mk cnt (k + cnt x) l
theorem mks_len {α : Type} (mk : Int → α → α) (cnt : α → Nat) : ∀ (k : Int) (l : List α),(mks mk cnt k l).length = l.length
  | _,[] => rfl
  | k,x :: l => by simp [mks,mks_len mk cnt (k + cnt x) l]
theorem mks_app {α : Type} (mk : Int → α → α) (cnt : α → Nat) : ∀ (k : Int) (l m : List α),mks mk cnt k (l ++ m) = mks mk cnt k l ++ mks mk cnt (k + szL cnt l) m
  | k,[],m => by simp [mks,szL]
  | k,x :: l,m => by
    have e : k + (cnt x : Int) + (szL cnt l : Int) = k + (szL cnt (x :: l) : Int) := by simp [szL]; omega
    simp [mks,mks_app mk cnt (k + cnt x) l m,e]
theorem mks_step {α : Type} (mk : Int → α → α) (cnt : α → Nat) (k : Int) (l : List α) {i : Nat} (h : i < l.length) : mks mk cnt k (l.take (i + 1)) = mks mk cnt k (l.take i) ++ [mk (k + szL cnt (l.take i)) l[i]] := by
  rw [List.take_succ_eq_append_getElem h,mks_app]; rfl
theorem mks_get {α : Type} (mk : Int → α → α) (cnt : α → Nat) (k : Int) (l : List α) {i : Nat} (h : i < l.length) : (mks mk cnt k l)[i]? = some (mk (k + szL cnt (l.take i)) l[i]) := by
  have e : l = l.take i ++ l[i] :: l.drop (i + 1) := by rw [← List.drop_eq_getElem_cons h,List.take_append_drop]
  conv => lhs; rw [e,mks_app]
  rw [List.getElem?_append_right (by rw [mks_len]; simp; omega),mks_len,List.length_take,Nat.min_eq_left (by omega),Nat.sub_self]
  rfl
def mixed {α : Type} (mk : Int → α → α) (cnt : α → Nat) (k : Int) (l : List α) (i : Nat) : List α := mks mk cnt k (l.take i) ++ l.drop i
theorem mixed_zero {α : Type} (mk : Int → α → α) (cnt : α → Nat) (k : Int) (l : List α) : mixed mk cnt k l 0 = l := by simp [mixed,mks]
theorem mixed_all {α : Type} (mk : Int → α → α) (cnt : α → Nat) (k : Int) (l : List α) : mixed mk cnt k l l.length = mks mk cnt k l := by simp [mixed]
theorem mixed_len {α : Type} (mk : Int → α → α) (cnt : α → Nat) (k : Int) (l : List α) (i : Nat) : (mixed mk cnt k l i).length = l.length := by simp [mixed,mks_len]; omega
theorem mixed_get {α : Type} (mk : Int → α → α) (cnt : α → Nat) (k : Int) (l : List α) {i : Nat} (h : i < l.length) : (mixed mk cnt k l i)[i]? = some l[i] := by
  unfold mixed
  rw [List.getElem?_append_right (by rw [mks_len]; simp; omega),mks_len,List.length_take,Nat.min_eq_left (by omega),Nat.sub_self,List.getElem?_drop]
  simp [h]
theorem mixed_set {α : Type} (mk : Int → α → α) (cnt : α → Nat) (k : Int) (l : List α) {i : Nat} (h : i < l.length) : (mixed mk cnt k l i).set i (mk (k + szL cnt (l.take i)) l[i]) = mixed mk cnt k l (i + 1) := by
  unfold mixed
  rw [List.set_append_right _ _ (by rw [mks_len]; simp; omega),mks_len,List.length_take,Nat.min_eq_left (by omega),Nat.sub_self,mks_step mk cnt k l h,List.drop_eq_getElem_cons h,List.set_cons_zero]
  simp
end
def markIF : Fun := ⟨19,
  .seq (.reg [o 4 (.mv (.c (.int .i64 0)))])
  (.seq (.seq (.reg [o 5 (.mv (.c (.int .i64 0)))])
  (.block 0 (.loop (.seq (.seq (.reg [o 6 (.mv (.t 5)),o 7 (.mv (.t 0)),o 8 (.lenL (.t 7)),o 9 (.bin .lss (.t 6) (.t 8))])
    (.cond (.t 9) (.skip) (.exit 0)))
    (.seq (.block 1 (.seq (.reg [o 12 (.mv (.t 0)),o 13 (.mv (.t 5)),o 14 (.mv (.t 1)),o 15 (.iaddr 1 (.t 12) (.t 13)),st (.store 1 (.t 15) (.t 14))])
     (.reg [o 16 (.mv (.t 1)),o 17 (.bin .add (.t 16) (.c (.int .i64 1))),o 1 (.mv (.t 17))])))
    (.reg [o 10 (.mv (.t 5)),o 11 (.bin .add (.t 10) (.c (.int .i64 1))),o 5 (.mv (.t 11))]))))))
  (.seq (.reg [o 18 (.mv (.t 1)),o 4 (.mv (.t 18))])
  (.ret))),
  [.tmp 4]⟩
def mkI (k : Int) (x : Int) : Int := k
def cI (x : Int) : Nat := 1
theorem szL_cI (l : List Int) : szL cI l = l.length := by
  induction l with
  | nil => rfl
  | cons x l ih => simp only [szL,List.map_cons,List.sum_cons,List.length_cons] at ih ⊢; rw [ih]; simp [cI]; omega
section
variable {P : Program} {f : Nat}
theorem markI_nil (hf : compF P f = some markIF) (k : Int) : Fnc P f [.nsl,.int .i64 k] (.int .i64 k) := by
  refine fn_of hf (by simp [markIF]) fun c => ?_
  unfold markIF
  simp
  refine loop_drop 0 (fun i e H c' => e 0 = .nsl ∧ e 1 = .int .i64 k ∧ e 5 = .int .i64 0 ∧ H = []) ⟨rfl,rfl,rfl,rfl⟩ ?_
  intro i e H c hi ⟨e0,e1,e5,hH⟩ N hN
  subst hH
  simp [e0,e1,e5]
  exact fin_plain ⟨rfl,rfl⟩
theorem markI_con1 (hf : compF P f = some markIF) {l : List Int} (hn : l.length ≤ 1048576) {k : Int} (hk : 0 ≤ k ∧ k ≤ 1099511627776) (t c : Nat) :
    Con P f [.ref 0 t 1 l.length,.int .i64 k] [⟨false,t,1,l.map encI⟩] c fun r H' _ => r = .int .i64 (k + l.length) ∧ H' = [⟨false,t,1,(mks mkI cI k l).map encI⟩] := by
  refine con_of hf (by simp [markIF]) ?_
  unfold markIF
  simp
  refine loop_drop l.length (fun i e H c' => e 0 = .ref 0 t 1 l.length ∧ e 1 = .int .i64 (k + i) ∧ e 5 = .int .i64 i ∧ H = [⟨false,t,1,(mixed mkI cI k l i).map encI⟩]) ⟨rfl,by simp,rfl,by rw [mixed_zero]⟩ ?_
  intro i e H c hi ⟨e0,e1,e5,hH⟩ N hN
  subst hH
  have hs := mixed_set mkI cI k l (i := i)
  rw [szL_cI,List.length_take,Nat.min_eq_left hi] at hs
  have w1 : IntKind.i64.wrap (k + i + 1) = k + i + 1 := wrap64 (by omega) (by omega)
  simp [e0,e1,e5]
  refine ⟨fun h => ?_,fun h => ?_⟩
  · refine ⟨h,l[i],mixed_get _ _ _ _ h,?_⟩
    have hs := hs h
    simp [e0,e1,e5,h,mixed_len,w1,putA,encI]
    refine hN _ _ _ _ h (List.Sublist.refl _) ⟨by simp [upd,e0],?_,by simp [upd]; exact step64 (by unfold mx; omega) h,?_⟩
    · simp [upd,w1]; omega
    · rw [← hs,List.map_set]; rfl
  · have h1 : i = l.length := by omega
    subst h1
    exact fin_all ⟨rfl,by rw [mixed_all]⟩
end
section
variable {α : Type}
def wood (t w : Nat) (encO : α → List AV) (inn : α → List AObj) (l : List α) : List AObj := ⟨false,t,w,l.map encO⟩ :: l.flatMap inn
def noInn (_ : α) : List AObj := []
theorem wood_flat (t w : Nat) (encO : α → List AV) (l : List α) : wood t w encO noInn l = [⟨false,t,w,l.map encO⟩] := by
  unfold wood noInn
  have : l.flatMap (fun _ : α => ([] : List AObj)) = [] := by induction l with | nil => rfl | cons x l ih => simp [List.flatMap_cons,ih]
  rw [this]
def Free (a : AV) : Prop := ∀ T,Av T a
theorem free_agg {l : List AV} (h : ∀ a,a ∈ l → Free a) : Free (.agg l) := fun T => .agg fun j a ha => h a (List.mem_of_getElem? ha) T
theorem avRows_free {T : List Nat} {o : AObj} (h : ∀ row,row ∈ o.rows → ∀ a,a ∈ row → Free a) : AvRows T o := avRows_of fun row hr a ha => h row hr a ha T
theorem view_wood1 {enc encO : α → List AV} {inn : α → List AObj} {S : List AObj} {i t w n : Nat} {l : List α} (hs : ∀ o,o ∈ wood t w encO inn l → o ∈ S) (hn : l.length = n) (hc : ∀ x a,a ∈ enc x → a.cell = true)
    (hl : ∀ x,(encO x).length = (enc x).length) (hv : ∀ x,(∀ o,o ∈ inn x → o ∈ S) → ∀ (j : Nat) (a a' : AV),(encO x)[j]? = some a → (enc x)[j]? = some a' → View S a a') : View S (.ref i t w n) ((SL.mk t l).av w enc) := by
  have get : ∀ (r : Nat) (x x' : List AV),(l.map encO)[r]? = some x → (l.map enc)[r]? = some x' → ∃ y,y ∈ l ∧ x = encO y ∧ x' = enc y := fun r x x' h1 h2 => by
    rw [List.getElem?_map] at h1 h2
    obtain ⟨y,hy,rfl⟩ := Option.map_eq_some_iff.1 h1
    rw [hy] at h2
    simp at h2
    exact ⟨y,List.mem_of_getElem? hy,rfl,h2.symm⟩
  refine .ref (hs _ (by unfold wood; exact List.mem_cons_self ..)) (by simp; omega) (by simp [hn]) (fun r x x' h1 h2 => ?_) (fun r j x a hx ha => ?_) fun r j x x' a a' h1 h2 h3 h4 => ?_
  · obtain ⟨y,_,rfl,rfl⟩ := get r x x' h1 h2; exact hl y
  · obtain ⟨y,hy,rfl⟩ := List.mem_map.1 (List.mem_of_getElem? hx)
    exact hc y a (List.mem_of_getElem? ha)
  · obtain ⟨y,hy,rfl,rfl⟩ := get r x x' h1 h2
    exact hv y (fun o ho => hs o (by unfold wood; exact List.mem_cons_of_mem _ (List.mem_flatMap.2 ⟨y,hy,ho⟩))) j a a' h3 h4
def SL.ref (w : Nat) : SL α → AV
  | .nil => .nsl
  | .mk t xs => .ref 0 t w xs.length
def SL.wood (w : Nat) (encO : α → List AV) (inn : α → List AObj) : SL α → List AObj
  | .nil => []
  | .mk t xs => A.wood t w encO inn xs
def SL.marks (mk : Int → α → α) (cnt : α → Nat) (k : Int) : SL α → SL α
  | .nil => .nil
  | .mk t xs => .mk t (mks mk cnt k xs)
theorem free_ref (w : Nat) (s : SL α) : Free (s.ref w) := fun T => by cases s <;> constructor
theorem view_wood {enc encO : α → List AV} {inn : α → List AObj} {S : List AObj} {w : Nat} {s : SL α} (hs : ∀ o,o ∈ s.wood w encO inn → o ∈ S) (hc : ∀ x a,a ∈ enc x → a.cell = true)
    (hl : ∀ x,(encO x).length = (enc x).length) (hv : ∀ x,(∀ o,o ∈ inn x → o ∈ S) → ∀ (j : Nat) (a a' : AV),(encO x)[j]? = some a → (enc x)[j]? = some a' → View S a a') : View S (s.ref w) (s.av w enc) := by
  cases s with
  | nil => exact .refl _
  | mk t l => exact view_wood1 hs rfl hc hl hv
theorem view_flat {enc : α → List AV} {S : List AObj} {w : Nat} {s : SL α} (hs : ∀ o,o ∈ s.wood w enc noInn → o ∈ S) (hc : ∀ x a,a ∈ enc x → a.cell = true) : View S (s.ref w) (s.av w enc) :=
  view_wood hs hc (fun _ => rfl) fun x _ j a a' h1 h2 => by rw [h1] at h2; cases h2; exact .refl _
theorem tags_wood {w : Nat} {encO : α → List AV} {inn : α → List AObj} {mk : Int → α → α} {cnt : α → Nat} (hi : ∀ k x,tags (inn (mk k x)) = tags (inn x)) (k : Int) (s : SL α) : tags ((s.marks mk cnt k).wood w encO inn) = tags (s.wood w encO inn) := by
  have key : ∀ (l : List α) (k : Int),tags ((mks mk cnt k l).flatMap inn) = tags (l.flatMap inn) := by
    intro l
    induction l with
    | nil => intro k; rfl
    | cons x l ih =>
      intro k
      have e : ∀ X Y : List AObj,tags (X ++ Y) = tags X ++ tags Y := fun X Y => by simp [tags]
      simp only [mks,List.flatMap_cons,e,hi,ih]
  cases s with
  | nil => rfl
  | mk t l =>
    show t :: tags ((mks mk cnt k l).flatMap inn) = t :: tags (l.flatMap inn)
    rw [key]
theorem free_wood {w : Nat} {encO : α → List AV} {inn : α → List AObj} (hO : ∀ x a,a ∈ encO x → Free a) (hI : ∀ x o,o ∈ inn x → ∀ T,AvRows T o) (s : SL α) : ∀ o,o ∈ s.wood w encO inn → ∀ T,AvRows T o := by
  cases s with
  | nil => intro o ho; cases ho
  | mk t l =>
    intro o ho T
    rcases List.mem_cons.1 ho with rfl | ho
    · exact avRows_free fun row hr a ha => by
        obtain ⟨x,_,rfl⟩ := List.mem_map.1 hr
        exact hO x a ha
    · obtain ⟨x,_,hx⟩ := List.mem_flatMap.1 ho
      exact hI x o hx T
end
section
variable {P : Program} {α : Type} {enc encO : α → List AV} {inn : α → List AObj} {con : α → α} {w : Nat} {f g : Nat}
theorem toSO_fn {z : List AV} {bytes : Nat} (hf : compF P f = some (toSF w z bytes g)) (hz : z.length = w) (hw : ∀ x,(enc x).length = w) (hwO : ∀ x,(encO x).length = w) (hO : ∀ x a,a ∈ encO x → Free a) (hI : ∀ x o,o ∈ inn x → ∀ T,AvRows T o)
    {s : SL α} (hn : s.list.length * bytes ≤ 281474976710656) (hn' : s.list.length ≤ 281474976710656)
    (hg : ∀ x,x ∈ s.list → ∀ c,Con P g [.agg (enc x)] [] c fun r O _ => ∃ b,r = .agg (encO b) ∧ O = inn b ∧ con b = con x) (c : Nat) :
    Con P f [s.av w enc] [] c fun r H' _ => ∃ b : SL α,r = b.ref w ∧ H' = b.wood w encO inn ∧ b.list.map con = s.list.map con := by
  refine con_of hf (by simp [toSF]) ?_
  unfold toSF
  simp
  refine ⟨by omega,by omega,loop_nat s.list.length (fun i e H c' => e 0 = s.av w enc ∧ e 3 = .ref 0 c w s.list.length ∧ e 4 = .int .i64 i ∧ ∃ ys : List α,ys.length = i ∧ ys.map con = (s.list.take i).map con ∧ H = ⟨false,c,w,grow encO z s.list.length ys⟩ :: ys.flatMap inn)
    ⟨rfl,rfl,rfl,[],rfl,rfl,by rw [grow_nil]; rfl⟩ ?_⟩
  intro i e H c' hi ⟨e0,e3,e4,ys,hy,hcon,hH⟩ N hN
  subst hH
  simp [e0,e3,e4]
  refine ⟨fun h => ⟨s.list[i],List.getElem?_eq_getElem h,?_⟩,fun h => ?_⟩
  · simp [hw,take_len,e0,e3,e4]
    refine call_new (hg _ (List.getElem_mem h) _) (Views.refl _ _) fun r O c'' hc' ⟨b,hr,hO',hb⟩ _ _ => ?_
    subst hr; subst hO'
    refine ⟨_,.refl _,free_agg (hO b) _,fun o ho => hI b o ho _,?_⟩
    simp [h,hwO,e0,e3,e4]
    refine ⟨_,grow_get _ _ hy h,hN _ _ _ h ⟨by simp [upd,e0],by simp [upd,e3],by simp [upd]; exact step64 (by unfold mx; omega) h,ys ++ [b],by simp [hy],?_,?_⟩⟩
    · rw [List.take_succ_eq_append_getElem h,List.map_append,List.map_append,hcon]; simp [hb]
    · rw [putA_all (by rw [hwO,hz]),grow_set _ _ hy h,List.flatMap_append]
      simp
  · have : i = s.list.length := by omega
    subst this
    rw [grow_all _ _ hy]
    exact fin_all ⟨.mk c ys,by rw [← hy]; rfl,rfl,by simpa using hcon⟩
theorem toPO_fn {v : α → AV} {z : AV} {bytes : Nat} (hf : compF P f = some (toPF z bytes)) (hv : ∀ x (K : List AV → Prop),cellsW (v x) K = K [v x]) {s : SL α} (hn : s.list.length * bytes ≤ 281474976710656) (hn' : s.list.length ≤ 281474976710656) (c : Nat) :
    Con P f [s.av 1 fun x => [v x]] [] c fun r H' _ => ∃ b : SL α,r = b.ref 1 ∧ H' = b.wood 1 (fun x => [v x]) noInn ∧ b.list = s.list := by
  refine con_of hf (by simp [toPF]) ?_
  unfold toPF
  simp
  refine ⟨by omega,by omega,loop_nat s.list.length (fun i e H c' => e 0 = (s.av 1 fun x => [v x]) ∧ e 3 = .ref 0 c 1 s.list.length ∧ e 4 = .int .i64 i ∧ H = [⟨false,c,1,grow (fun x => [v x]) [z] s.list.length (s.list.take i)⟩]) ⟨rfl,rfl,rfl,by rw [List.take_zero,grow_nil]⟩ ?_⟩
  intro i e H c' hi ⟨e0,e3,e4,hH⟩ N hN
  subst hH
  simp [e0,e3,e4]
  refine ⟨fun h => ⟨s.list[i],List.getElem?_eq_getElem h,?_⟩,fun h => ?_⟩
  · have hl : (s.list.take i).length = i := by simp; omega
    simp [h,hv,e0,e3,e4]
    refine ⟨_,grow_get _ _ hl h,hN _ _ _ h ⟨by simp [upd,e0],by simp [upd,e3],by simp [upd]; exact step64 (by unfold mx; omega) h,?_⟩⟩
    rw [List.take_succ_eq_append_getElem h,← grow_set _ _ hl h]; rfl
  · have : i = s.list.length := by omega
    subst this
    rw [List.take_length,grow_all _ _ rfl]
    exact fin_all ⟨.mk c s.list,rfl,(wood_flat ..).symm,rfl⟩
end
section
variable {P : Program} {f : Nat}
theorem markI_con (hf : compF P f = some markIF) {s : SL Int} (hn : s.list.length ≤ 1048576) {k : Int} (hk : 0 ≤ k ∧ k ≤ 1099511627776) (c : Nat) :
    Con P f [s.ref 1,.int .i64 k] (s.wood 1 encI noInn) c fun r H' _ => r = .int .i64 (k + s.list.length) ∧ H' = (s.marks mkI cI k).wood 1 encI noInn := by
  cases s with
  | nil =>
    have := markI_nil hf k c
    simpa [SL.ref,SL.wood,SL.marks] using this
  | mk t l =>
    have := markI_con1 hf (l := l) hn hk t c
    simpa [SL.ref,SL.wood,SL.marks,wood_flat] using this
end
theorem szL_const {α : Type} (n : Nat) (l : List α) : szL (fun _ => n) l = n * l.length := by
  induction l with
  | nil => simp [szL]
  | cons x l ih => simp [szL] at ih ⊢; rw [Nat.mul_add]; omega
section
variable {P : Program} {H : List AObj} {c : Nat} {K : AV → List AObj → Nat → Prop}
@[simp] theorem srcW_slc (wd t w : Nat) (rows : List (List AV)) (K : List (List AV) → Prop) : srcW wd (.slc t w rows) H K = (w = wd ∧ K rows) := (rfl)
@[simp] theorem srcW_nsl (wd : Nat) (K : List (List AV) → Prop) : srcW wd .nsl H K = K [] := (rfl)
@[simp] theorem srcW_str (wd : Nat) (l : List UInt8) (K : List (List AV) → Prop) : srcW wd (.str l) H K = (wd = 1 ∧ K (l.map byteRow)) := (rfl)
@[simp] theorem srcW_ref (wd j t w n : Nat) (K : List (List AV) → Prop) : srcW wd (.ref j t w n) H K = (w = wd ∧ getW H j fun ob => ob.tag = t ∧ ob.mp = false ∧ ob.w = w ∧ n ≤ ob.rows.length ∧ K (ob.rows.take n)) := (rfl)
@[simp] theorem srcW_sl {α : Type} (w : Nat) (f : α → List AV) (s : SL α) (K : List (List AV) → Prop) : srcW w (s.av w f) H K = K (s.list.map f) := by
  cases s <;> simp [SL.av]
@[simp] theorem appendW_ref (wd b i t w n : Nat) (y : AV) : appendW wd b (.ref i t w n) y H c K = srcW wd y H fun rows' => w = wd ∧ getW H i fun ob => ob.tag = t ∧ ob.mp = false ∧ ob.w = w ∧ cutW ob.rows n fun rs => (n + rows'.length) * b ≤ 140737488355328 ∧ n + rows'.length ≤ mx ∧
        K (.ref i c wd (n + rows'.length)) (H.set i ⟨false,c,wd,rs ++ rows'⟩) (c + 1) := (rfl)
@[simp] theorem cutW_all {rows : List (List AV)} {n : Nat} (h : rows.length = n) (K : List (List AV) → Prop) : cutW rows n K = K rows := by
  subst h; simp [cutW]
@[simp] theorem appendW_nsl (wd b : Nat) (y : AV) : appendW wd b .nsl y H c K = srcW wd y H fun rows' => (rows' = [] → K .nsl H c) ∧ (rows' ≠ [] → rows'.length * b ≤ 140737488355328 ∧ rows'.length ≤ mx ∧ K (.ref H.length c wd rows'.length) (H ++ [⟨false,c,wd,rows'⟩]) (c + 1)) := (rfl)
theorem tr_fn {f : Nat} {l : List AV} {res : AV} (hf : Fnc P f l res) (hfr : ∀ c,From c res) : Tr P f l fun _ r => r = res := fun c => (hf c).mono fun r H' c' _ ⟨h1,h2⟩ => ⟨h2,h1,h1 ▸ hfr c⟩
theorem callD_fn0 {R : AV → Prop} {f : Nat} {l : List AV} {K : AV → Prop} {res : AV} (hf : Fnc P f l res) (hR : ∀ v,R v ↔ v = res) (hfr : ∀ c,From c res) (k : K res) : callD P R f l H c K :=
  ⟨l,Views.refl _ _,(fun c => (hf c).mono fun r H' c' _ ⟨h1,h2⟩ => ⟨h2,(hR r).2 h1,h1 ▸ hfr c⟩),⟨res,(hR res).2 rfl,hfr c⟩,fun r hr _ => by rw [(hR r).1 hr]; exact k⟩
theorem toStrW_ref {i t n : Nat} {l : List UInt8} {K : AV → Prop} (ho : H[i]? = some ⟨false,t,1,l.map byteRow⟩) (hn : l.length = n) (hl : l.length ≤ mx) (k : K (.str l)) : toStrW (.ref i t 1 n) H K := by
  unfold toStrW
  simp only [srcW_ref]
  exact ⟨trivial,_,ho,rfl,rfl,rfl,by simp; omega,l,by rw [← hn]; exact List.take_of_length_le (by simp),hl,k⟩
theorem wrap_u8 {n : Nat} (h : n < 256) : IntKind.u8.wrap (IntKind.i64.wrap n) = ((UInt8.ofNat n).toNat : Int) := by
  rw [wrap64 (by omega) (by omega),IntKind.wrap_u8]
  simp [UInt8.toNat_ofNat']
theorem Con.fin {f : Nat} {args : List AV} {Q Q' : AV → List AObj → Nat → Prop} (h : Con P f args H c Q)
    (k : ∀ r H' c',c ≤ c' → Q r H' c' → (∀ t,t < c → t ∈ tags H' → t ∈ tags H) → (tags H').Nodup → finW Q' r H' c') : Con P f args H c Q' := by
  intro G w vs e I hs hr
  refine (h G w vs e I hs hr).mono fun en w' ⟨v,res,H',G1,h1,h2,x1,I1,r1⟩ => ?_
  subst e
  obtain ⟨S,Hk,Hk',v',q1,qr,q2,q3,q4,q5⟩ := k res H' G1.c x1.x.c h2 x1.oldH I1.nodup
  have hS : ∀ t,t ∈ tags S → t ∈ tags H' := fun t ht => by obtain ⟨o,ho,rfl⟩ := of_mem_tags ht; exact mem_tags (q2 o ho)
  exact ⟨v,v',Hk',G1.freeze S,h1,q5,⟨x1.x.trans (Ext1.freeze _ _ _),x1.os,x1.tape,x1.output,x1.size,x1.frame,x1.newm,fun t h1 h2 => x1.oldH t h1 ((q1.map _).subset (by rw [qr.tags_eq] at h2; exact h2)),fun t h1 h2 => by
    rcases h2 with h2 | h2
    · exact x1.oldF t h1 h2
    · exact .inr (x1.oldH t h1 (hS t h2))⟩,I1.ren q1.subset q2 (I1.freeze q1 q2 q3) qr,q4.rep I1 q2 r1⟩
theorem tr_of {f : Nat} {args : List AV} {Q : AV → List AObj → Nat → Prop} {Q' : Nat → AV → Prop} (h : ∀ c,Con P f args [] c Q)
    (k : ∀ c r O c',c ≤ c' → Q r O c' → (∀ t,t ∈ tags O → c ≤ t) → ∃ v',View O r v' ∧ Q' c v' ∧ From c v') : Tr P f args Q' := by
  intro c
  refine (h c).fin fun r O c' hc hq ho hd => ?_
  obtain ⟨v',h1,h2,h3⟩ := k c r O c' hc hq fun t ht => by
    rcases Nat.lt_or_ge t c with h | h
    · have := ho t h ht; simp [tags] at this
    · exact h
  exact ⟨O,[],[],v',List.nil_sublist _,.nil,fun _ h => h,by simp [tags],h1,rfl,h2,h3⟩
theorem free_tup {l : List AV} (h : ∀ a,a ∈ l → Free a) : Free (.tup l) := fun T => .tup fun j a ha => h a (List.mem_of_getElem? ha) T
theorem free_bool (b : Bool) : Free (.bool b) := fun _ => .bool
theorem free_int (k : IntKind) (n : Int) : Free (.int k n) := fun _ => .int
theorem free_str (l : List UInt8) : Free (.str l) := fun _ => .str
theorem view_tup {S : List AObj} {l l' : List AV} (h : Views S l l') : View S (.tup l) (.tup l') := .tup h.spec.1 h.spec.2
theorem from_tup {c : Nat} {l : List AV} (h : ∀ a,a ∈ l → From c a) : From c (.tup l) := fun T hT => .tup fun j a ha => h a (List.mem_of_getElem? ha) T hT
section
variable {α : Type}
@[simp] theorem ref_cells (w : Nat) (s : SL α) (K : List AV → Prop) : cellsW (s.ref w) K = K [s.ref w] := by cases s <;> rfl
theorem isnl_av (neg : Bool) (w : Nat) (f : α → List AV) (s : SL α) (K : AV → Prop) (h0 : s.list = [] → K (.bool (true != neg))) (h1 : K (.bool (false != neg))) : isnlW neg (s.av w f) K := by
  cases s with
  | nil => exact h0 rfl
  | mk t l => cases l with
    | nil => exact ⟨h0 rfl,h1⟩
    | cons x l => exact h1
def Flat (enc : α → List AV) : Prop := ∀ x a,a ∈ enc x → a.cell = true ∧ Free a
theorem Flat.cells {enc : α → List AV} (h : Flat enc) : ∀ x a,a ∈ enc x → a.cell = true := fun x a ha => (h x a ha).1
theorem Free.from {a : AV} (h : Free a) (c : Nat) : From c a := fun T _ => h T
theorem flat_wood (t w : Nat) (enc : α → List AV) (l : List α) : (SL.mk t l).wood w enc noInn = [⟨false,t,w,l.map enc⟩] := wood_flat ..
theorem flat_free {enc : α → List AV} (h : Flat enc) (w : Nat) (s : SL α) : ∀ o,o ∈ s.wood w enc noInn → ∀ T,AvRows T o :=
  free_wood (fun x a ha => (h x a ha).2) (fun x o ho => by cases ho) s
theorem flat_from {enc : α → List AV} (h : Flat enc) {w c : Nat} {s : SL α} (ht : ∀ t,t ∈ tags (s.wood w enc noInn) → c ≤ t) : From c (s.av w enc) := by
  cases s with
  | nil => exact from_nsl c
  | mk t l =>
    refine from_slc (ht t ?_) fun row hr a ha => ?_
    · rw [flat_wood]; simp [tags]
    · obtain ⟨x,_,rfl⟩ := List.mem_map.1 hr
      exact ((h x a ha).2).from c
theorem flat_tr2 {enc : α → List AV} (hE : Flat enc) {w : Nat} {f : Nat} {args : List AV} {Q : SL α → List AV → Prop} (hF : ∀ b l,Q b l → ∀ a,a ∈ l → Free a)
    (h : ∀ c,Con P f args [] c fun r O _ => ∃ (b : SL α) (l : List AV),r = .tup (b.ref w :: l) ∧ O = b.wood w enc noInn ∧ Q b l) :
    Tr P f args fun _ r => ∃ (b : SL α) (l : List AV),r = .tup (b.av w enc :: l) ∧ Q b l :=
  tr_of h fun c r O c' _ ⟨b,l,h1,h2,h3⟩ ht => ⟨.tup (b.av w enc :: l),by rw [h1]; exact view_tup (.cons (view_flat (by rw [h2]; exact fun _ h => h) hE.cells) (Views.refl _ _)),⟨b,l,rfl,h3⟩,
    from_tup fun a ha => by
      rcases List.mem_cons.1 ha with rfl | ha
      · exact flat_from hE (by rw [← h2]; exact ht)
      · exact (hF b l h3 a ha).from c⟩
theorem flat_marks {enc : α → List AV} {w : Nat} (mk : Int → α → α) (cnt : α → Nat) (k : Int) (s : SL α) : tags ((s.marks mk cnt k).wood w enc noInn) = tags (s.wood w enc noInn) := tags_wood (inn := noInn) (mk := mk) (cnt := cnt) (fun _ _ => rfl) k s
end
end
def cloneF (w : Nat) (z : List AV) (b : Nat) : Fun := ⟨8,
  .seq (.reg [o 2 (.mv (.c .nsl))])
  (.seq (.seq (.reg [o 3 (.mv (.t 0)),o 4 (.isnl false (.t 3))])
  (.cond (.t 4) (.seq (.reg [o 2 (.mv (.c .nsl))])
   (.ret)) (.skip)))
  (.seq (.reg [o 5 (.bslice w z 0 []),o 6 (.mv (.t 0)),o 7 (.append w b (.t 5) (.t 6)),o 2 (.mv (.t 7))])
  (.ret))),
  [.tmp 2]⟩
@[simp] theorem getW_len {α : Type} (L M : List α) (x : α) (K : α → Prop) : getW (L ++ x :: M) L.length K = K x := getW_of (by rw [List.getElem?_append_right (Nat.le_refl _)]; simp) K
@[simp] theorem getW_len1 {α : Type} (L M : List α) (x y : α) (K : α → Prop) : getW (L ++ x :: y :: M) (L.length + 1) K = K y := getW_of (by rw [List.getElem?_append_right (by omega)]; simp) K
theorem fin_sub {Q : AV → List AObj → Nat → Prop} {v v' : AV} {H Hk : List AObj} {c : Nat} (hs : Hk.Sublist H) (hv : View [] v v') (h : Q v' Hk c) : finW Q v H c := ⟨[],Hk,Hk,v',hs,.refl _ _,by simp,by simp [tags],hv,h⟩
section
variable {α : Type}
section
variable {P : Program} {enc : α → List AV} {w b f : Nat} {z : List AV}
theorem clone_con (hf : compF P f = some (cloneF w z b)) {s : SL α} (hn : s.list.length * b ≤ 140737488355328) (hn' : s.list.length ≤ mx) (c : Nat) :
    Con P f [s.av w enc] [] c fun r O _ => ∃ x : SL α,r = x.ref w ∧ O = x.wood w enc noInn ∧ x.list = s.list := by
  refine con_of hf (by simp [cloneF]) ?_
  unfold cloneF
  simp
  refine isnl_av _ _ _ _ _ (fun h => ?_) ?_
  · simp
    exact fin_all ⟨.nil,rfl,rfl,by rw [h]; rfl⟩
  · simp
    exact ⟨hn,hn',fin_all ⟨.mk (c + 1) s.list,by simp [SL.ref],by simp [flat_wood],rfl⟩⟩
end
end
section
variable {P : Program} {K : AV → List AObj → Nat → Prop} {α : Type} {enc encO : α → List AV} {inn : α → List AObj} {w f : Nat} {mk : Int → α → α} {cnt : α → Nat}
theorem call_midr {f : Nat} {l l' : List AV} {a : AObj} {A B C : List AObj} {c : Nat} {Q : AV → List AObj → Nat → Prop} (hf : Con P f l' B c Q) (hv : Views [] l l')
    (k : ∀ r B' c',c ≤ c' → Q r B' c' → tags B' = tags B ∧ Av [] r ∧ (∀ o,o ∈ B' → AvRows [] o) ∧ K r (a :: (A ++ (B' ++ C))) c') : CallW P f l (a :: (A ++ (B ++ C))) c K := by
  have e : ∀ X : List AObj,a :: (A ++ (X ++ C)) = (a :: A) ++ X ++ C := fun X => by simp
  rw [e]
  exact call_mid hf hv fun r B' c' hc hq => by rw [← e]; exact k r B' c' hc hq
theorem SL.marks_ref (k : Int) (s : SL α) : (s.marks mk cnt k).ref w = s.ref w := by cases s <;> simp [SL.marks,SL.ref,mks_len]
theorem mark_mid {A C : List AObj} {s : SL α} {k n : Int} {c : Nat} (hf : Con P f [s.ref w,.int .i64 k] (s.wood w encO inn) c fun r H' _ => r = .int .i64 n ∧ H' = (s.marks mk cnt k).wood w encO inn)
    (hi : ∀ k x,tags (inn (mk k x)) = tags (inn x)) (hO : ∀ x a,a ∈ encO x → Free a) (hI : ∀ x o,o ∈ inn x → ∀ T,AvRows T o) (kk : ∀ c',c ≤ c' → K (.int .i64 n) (A ++ (s.marks mk cnt k).wood w encO inn ++ C) c') :
    CallW P f [s.ref w,.int .i64 k] (A ++ s.wood w encO inn ++ C) c K :=
  call_mid hf (Views.refl _ _) fun r B' c' hc ⟨h1,h2⟩ => by
    subst h1; subst h2
    exact ⟨tags_wood hi _ s,.int,fun o ho => free_wood hO hI _ o ho _,kk c' hc⟩
end
set_option maxRecDepth 100000
structure TKey where
  Text : Bool
  Num : Int
  Str : List UInt8
  deriving DecidableEq
inductive TValue where
  | mk (Kind Num : Int) (Str : List UInt8) (Next : Int) (Items : SL (TKey × TValue))
namespace TValue
def Kind : TValue → Int | .mk k _ _ _ _ => k
def Num : TValue → Int | .mk _ n _ _ _ => n
def Str : TValue → List UInt8 | .mk _ _ s _ _ => s
def Next : TValue → Int | .mk _ _ _ x _ => x
def Items : TValue → SL (TKey × TValue) | .mk _ _ _ _ i => i
end TValue
theorem items_lt {k n : Int} {s : List UInt8} {x : Int} {I : SL (TKey × TValue)} {e : TKey × TValue} (h : e ∈ I.list) : SizeOf.sizeOf e.2 < SizeOf.sizeOf (TValue.mk k n s x I) := by
  cases I with
  | nil => simp at h
  | mk t xs =>
    have h1 := List.sizeOf_lt_of_mem (show e ∈ xs from h)
    obtain ⟨a,b⟩ := e
    simp only [TValue.mk.sizeOf_spec,SL.mk.sizeOf_spec,Prod.mk.sizeOf_spec] at h1 ⊢
    omega
theorem TValue.ind {p : TValue → Prop} (h : ∀ k n s x I,(∀ e,e ∈ I.list → p e.2) → p (.mk k n s x I)) : ∀ v,p v
  | .mk k n s x I => h k n s x I fun e he => TValue.ind h e.2
termination_by v => SizeOf.sizeOf v
decreasing_by exact items_lt he
def TKey.enc (k : TKey) : List AV := [.bool k.Text,.int .i64 k.Num,.str k.Str]
@[simp] theorem TKey.len (s : TKey) : s.enc.length = 3 := (rfl)
@[simp] theorem TKey.all (s : TKey) : s.enc.take 3 = s.enc := (rfl)
@[simp] theorem TKey.g0 (s : TKey) (K : AV → Prop) : getW s.enc 0 K = K (.bool s.Text) := by simp [TKey.enc]
@[simp] theorem TKey.g1 (s : TKey) (K : AV → Prop) : getW s.enc 1 K = K (.int .i64 s.Num) := by simp [TKey.enc]
@[simp] theorem TKey.g2 (s : TKey) (K : AV → Prop) : getW s.enc 2 K = K (.str s.Str) := by simp [TKey.enc]
def TValue.enc : TValue → List AV
  | .mk k n s x I => [.int .i64 k,.int .i64 n,.str s,.int .i64 x,match I with | .nil => .nsl | .mk t xs => .slc t 8 (xs.attach.map fun e => e.1.1.enc ++ e.1.2.enc)]
termination_by v => SizeOf.sizeOf v
decreasing_by exact items_lt (I := .mk t xs) e.2
def encE (e : TKey × TValue) : List AV := e.1.enc ++ e.2.enc
theorem TValue.enc_mk (k n : Int) (s : List UInt8) (x : Int) (I : SL (TKey × TValue)) : (TValue.mk k n s x I).enc = [.int .i64 k,.int .i64 n,.str s,.int .i64 x,I.av 8 encE] := by
  rw [TValue.enc.eq_def]
  cases I with
  | nil => rfl
  | mk t xs =>
    show ([AV.int .i64 k,.int .i64 n,.str s,.int .i64 x,.slc t 8 (xs.attach.map fun e => e.1.1.enc ++ e.1.2.enc)] : List AV) = [AV.int .i64 k,.int .i64 n,.str s,.int .i64 x,.slc t 8 (xs.map encE)]
    rw [show (xs.attach.map fun e => e.1.1.enc ++ e.1.2.enc) = xs.map encE from by
      rw [show (fun e : { x // x ∈ xs } => e.1.1.enc ++ e.1.2.enc) = encE ∘ Subtype.val from rfl,← List.map_map,List.attach_map_subtype_val]]
theorem TValue.enc_eq (v : TValue) : v.enc = [.int .i64 v.Kind,.int .i64 v.Num,.str v.Str,.int .i64 v.Next,v.Items.av 8 encE] := by
  cases v; exact TValue.enc_mk _ _ _ _ _
@[simp] theorem TValue.len (v : TValue) : v.enc.length = 5 := by rw [TValue.enc_eq]; rfl
@[simp] theorem TValue.all (v : TValue) : v.enc.take 5 = v.enc := by rw [TValue.enc_eq]; rfl
@[simp] theorem TValue.g0 (v : TValue) (K : AV → Prop) : getW v.enc 0 K = K (.int .i64 v.Kind) := by simp [TValue.enc_eq]
@[simp] theorem TValue.g1 (v : TValue) (K : AV → Prop) : getW v.enc 1 K = K (.int .i64 v.Num) := by simp [TValue.enc_eq]
@[simp] theorem TValue.g2 (v : TValue) (K : AV → Prop) : getW v.enc 2 K = K (.str v.Str) := by simp [TValue.enc_eq]
@[simp] theorem TValue.g3 (v : TValue) (K : AV → Prop) : getW v.enc 3 K = K (.int .i64 v.Next) := by simp [TValue.enc_eq]
@[simp] theorem TValue.g4 (v : TValue) (K : AV → Prop) : getW v.enc 4 K = K (v.Items.av 8 encE) := by simp [TValue.enc_eq]
theorem TValue.cells (v : TValue) : ∀ a,a ∈ v.enc → a.cell = true := by simp [TValue.enc_eq]
@[simp] theorem encE_len (e : TKey × TValue) : (encE e).length = 8 := by simp [encE,TKey.enc]
@[simp] theorem encE_all (e : TKey × TValue) : (encE e).take 8 = encE e := by rw [← encE_len e,List.take_length]
@[simp] theorem encE_key (e : TKey × TValue) : (encE e).take 3 = e.1.enc := rfl
@[simp] theorem encE_val (e : TKey × TValue) : (encE e).drop 3 = e.2.enc := rfl
@[simp] theorem encE_g0 (e : TKey × TValue) (K : AV → Prop) : getW (encE e) 0 K = K (.bool e.1.Text) := by simp [encE,TKey.enc]
@[simp] theorem encE_g1 (e : TKey × TValue) (K : AV → Prop) : getW (encE e) 1 K = K (.int .i64 e.1.Num) := by simp [encE,TKey.enc]
theorem encE_cells (e : TKey × TValue) : ∀ a,a ∈ encE e → a.cell = true := fun a ha => by
  simp only [encE,TKey.enc,List.mem_append,List.mem_cons,List.not_mem_nil,or_false] at ha
  rcases ha with (rfl | rfl | rfl) | ha
  · rfl
  · rfl
  · rfl
  · exact e.2.cells a ha
def TValue.con : TValue → TValue
  | .mk k n s x I => .mk k n s x (match I with | .nil => .mk 0 [] | .mk _ xs => .mk 0 (xs.attach.map fun e => (e.1.1,e.1.2.con)))
termination_by v => SizeOf.sizeOf v
decreasing_by exact items_lt (I := .mk _ xs) e.2
def conE (e : TKey × TValue) : TKey × TValue := (e.1,e.2.con)
theorem TValue.con_mk (k n : Int) (s : List UInt8) (x : Int) (I : SL (TKey × TValue)) : (TValue.mk k n s x I).con = .mk k n s x (.mk 0 (I.list.map conE)) := by
  rw [TValue.con.eq_def]
  cases I with
  | nil => rfl
  | mk t xs =>
    show TValue.mk k n s x (.mk 0 _) = .mk k n s x (.mk 0 (xs.map conE))
    rw [show (xs.attach.map fun e => (e.1.1,e.1.2.con)) = xs.map conE from by
      rw [show (fun e : { x // x ∈ xs } => (e.1.1,e.1.2.con)) = conE ∘ Subtype.val from rfl,← List.map_map,List.attach_map_subtype_val]]
def TValue.sz : TValue → Nat
  | .mk k n s x I => s.length + (match I with | .nil => 0 | .mk _ xs => xs.length + (xs.attach.map fun e => e.1.1.Str.length + e.1.2.sz).sum)
termination_by v => SizeOf.sizeOf v
decreasing_by exact items_lt (I := .mk _ xs) e.2
def szE (e : TKey × TValue) : Nat := e.1.Str.length + e.2.sz
theorem TValue.sz_mk (k n : Int) (s : List UInt8) (x : Int) (I : SL (TKey × TValue)) : (TValue.mk k n s x I).sz = s.length + (I.list.length + szL szE I.list) := by
  rw [TValue.sz.eq_def]
  cases I with
  | nil => rfl
  | mk t xs =>
    show s.length + (xs.length + (xs.attach.map fun e => e.1.1.Str.length + e.1.2.sz).sum) = s.length + (xs.length + szL szE xs)
    simp only [szL]
    rw [show (xs.attach.map fun e => e.1.1.Str.length + e.1.2.sz) = xs.map szE from by
      rw [show (fun e : { x // x ∈ xs } => e.1.1.Str.length + e.1.2.sz) = szE ∘ Subtype.val from rfl,← List.map_map,List.attach_map_subtype_val]]
theorem TValue.sz_eq (v : TValue) : v.sz = v.Str.length + (v.Items.list.length + szL szE v.Items.list) := by cases v; exact TValue.sz_mk _ _ _ _ _
theorem szL_congr {α β : Type} {f : α → Nat} {g : β → Nat} {h : β → α} {l : List β} (e : ∀ x,x ∈ l → f (h x) = g x) : szL f (l.map h) = szL g l := by
  simp only [szL,List.map_map]
  congr 1
  exact List.map_congr_left fun x hx => e x hx
theorem TValue.sz_con : ∀ v : TValue,v.con.sz = v.sz := TValue.ind fun k n s x I ih => by
  rw [TValue.con_mk,TValue.sz_mk,TValue.sz_mk,SL.list_mk,List.length_map,szL_congr fun e he => ?_]
  show e.1.Str.length + e.2.con.sz = e.1.Str.length + e.2.sz
  rw [ih e he]
def TValue.ok : TValue → Prop
  | .mk k n s x I => s.length ≤ mx ∧ (match I with | .nil => True | .mk _ xs => xs.length ≤ mx ∧ ∀ e : { x // x ∈ xs },e.1.1.Str.length ≤ mx ∧ e.1.2.ok)
termination_by v => SizeOf.sizeOf v
decreasing_by exact items_lt (I := .mk _ xs) e.2
def okE (e : TKey × TValue) : Prop := e.1.Str.length ≤ mx ∧ e.2.ok
theorem TValue.ok_mk {k n : Int} {s : List UInt8} {x : Int} {I : SL (TKey × TValue)} : (TValue.mk k n s x I).ok ↔ s.length ≤ mx ∧ I.list.length ≤ mx ∧ ∀ e,e ∈ I.list → okE e := by
  rw [TValue.ok.eq_def]
  cases I with
  | nil => simp
  | mk t xs =>
    show (s.length ≤ mx ∧ xs.length ≤ mx ∧ ∀ e : { x // x ∈ xs },e.1.1.Str.length ≤ mx ∧ e.1.2.ok) ↔ (s.length ≤ mx ∧ xs.length ≤ mx ∧ ∀ e,e ∈ xs → okE e)
    exact and_congr_right fun _ => and_congr_right fun _ => ⟨fun h e he => h ⟨e,he⟩,fun h e => h e.1 e.2⟩
theorem ok_of_sz : ∀ v : TValue,v.sz ≤ mx → v.ok := by
  refine TValue.ind (p := fun v => v.sz ≤ mx → v.ok) fun k n s x I ih h => ?_
  rw [TValue.sz_mk] at h
  refine TValue.ok_mk.2 ⟨by omega,by omega,fun e he => ?_⟩
  have h1 := szL_mem (sz := szE) he
  have h2 : szE e = e.1.Str.length + e.2.sz := rfl
  exact ⟨by omega,ih e he (by omega)⟩
set_option maxRecDepth 100000
def TKey.sz (s : TKey) : Nat := s.Str.length
def TKey.con (s : TKey) : TKey := s
theorem TKey.eq_fn {a b : TKey} (h : a.sz ≤ 1099511627776) (he : a.con = b.con) : Fnc Tryz.prog 235 [.agg a.enc,.agg b.enc] (.bool true) := by
  simp only [TKey.sz] at h
  have e0 : a.Text = b.Text := (congrArg TKey.Text he : a.con.Text = b.con.Text)
  have e1 : a.Num = b.Num := (congrArg TKey.Num he : a.con.Num = b.con.Num)
  have e2 : a.Str = b.Str := (congrArg TKey.Str he : a.con.Str = b.con.Str)
  refine fn_of c235 (by simp [F235]) fun c => ?_
  unfold F235
  simp [e0,e1,e2]
  exact fin_plain ⟨rfl,rfl⟩
theorem con_inj {v w : TValue} (h : v.con = w.con) : v.Kind = w.Kind ∧ v.Num = w.Num ∧ v.Str = w.Str ∧ v.Next = w.Next ∧ v.Items.list.map conE = w.Items.list.map conE := by
  cases v
  cases w
  rw [TValue.con_mk,TValue.con_mk] at h
  simp only [TValue.mk.injEq,SL.mk.injEq,true_and] at h
  exact h
theorem entry_eq {a b : TKey × TValue} (hz : szE a ≤ 1099511627776) (he : conE a = conE b) (hv : Fnc Tryz.prog 194 [.agg a.2.enc,.agg b.2.enc] (.bool true)) : Fnc Tryz.prog 228 [.agg (encE a),.agg (encE b)] (.bool true) := by
  have e1 : a.1 = b.1 := (congrArg Prod.fst he : (conE a).1 = (conE b).1)
  refine fn_of c228 (by simp [F228]) fun c => ?_
  unfold F228
  simp
  refine call_fn0 (TKey.eq_fn (a := a.1) (b := b.1) (by simp only [szE] at hz; simp only [TKey.sz]; omega) e1) .bool fun _ _ => ?_
  simp
  refine call_fn0 hv .bool fun _ _ => ?_
  simp
  exact fin_plain ⟨rfl,rfl⟩
theorem val_eq : ∀ v : TValue,v.sz ≤ 1099511627776 → ∀ w : TValue,v.con = w.con → Fnc Tryz.prog 194 [.agg v.enc,.agg w.enc] (.bool true) := by
  refine TValue.ind (p := fun v => v.sz ≤ 1099511627776 → ∀ w : TValue,v.con = w.con → Fnc Tryz.prog 194 [.agg v.enc,.agg w.enc] (.bool true)) fun k n s x I ih hz w hw => ?_
  rw [TValue.sz_mk] at hz
  obtain ⟨k',n',s',x',I'⟩ := w
  obtain ⟨rfl,rfl,rfl,rfl,h5⟩ := con_inj hw
  refine fn_of c194 (by simp [F194]) fun c => ?_
  unfold F194
  rw [TValue.enc_mk,TValue.enc_mk]
  simp [TValue.Kind,TValue.Num,TValue.Str,TValue.Next]
  have he : ∀ e,e ∈ I.list → szE e ≤ 1099511627776 := fun e he => by have := szL_mem (sz := szE) he; omega
  refine call_fn0 (eqS_fn (con := conE) (g := 228) c219 encE_len (by unfold mx; omega) h5 fun a ha b hab => entry_eq (he a ha) hab (ih a ha (by have := he a ha; simp only [szE] at this; omega) b.2 (congrArg Prod.snd hab : (conE a).2 = (conE b).2))) .bool fun _ _ => ?_
  simp
  exact fin_plain ⟨rfl,rfl⟩
theorem TValue.eq_fn {a b : TValue} (h : a.sz ≤ 1099511627776) (he : a.con = b.con) : Fnc Tryz.prog 194 [.agg a.enc,.agg b.enc] (.bool true) := val_eq a h b he
set_option maxRecDepth 100000
structure TField where
  Name : List UInt8
  Owner : List UInt8
  Private : Bool
  Init : TValue
def TField.enc (s : TField) : List AV := [.str s.Name,.str s.Owner,.bool s.Private,.int .i64 s.Init.Kind,.int .i64 s.Init.Num,.str s.Init.Str,.int .i64 s.Init.Next,s.Init.Items.av 8 encE]
@[simp] theorem TField.len (s : TField) : s.enc.length = 8 := (rfl)
@[simp] theorem TField.all (s : TField) : s.enc.take 8 = s.enc := (rfl)
@[simp] theorem TField.g0 (s : TField) (K : AV → Prop) : getW s.enc 0 K = K (.str s.Name) := by simp [TField.enc]
@[simp] theorem TField.g1 (s : TField) (K : AV → Prop) : getW s.enc 1 K = K (.str s.Owner) := by simp [TField.enc]
@[simp] theorem TField.g2 (s : TField) (K : AV → Prop) : getW s.enc 2 K = K (.bool s.Private) := by simp [TField.enc]
@[simp] theorem TField.g3 (s : TField) (K : AV → Prop) : getW s.enc 3 K = K (.int .i64 s.Init.Kind) := by simp [TField.enc]
@[simp] theorem TField.g4 (s : TField) (K : AV → Prop) : getW s.enc 4 K = K (.int .i64 s.Init.Num) := by simp [TField.enc]
@[simp] theorem TField.g5 (s : TField) (K : AV → Prop) : getW s.enc 5 K = K (.str s.Init.Str) := by simp [TField.enc]
@[simp] theorem TField.g6 (s : TField) (K : AV → Prop) : getW s.enc 6 K = K (.int .i64 s.Init.Next) := by simp [TField.enc]
@[simp] theorem TField.g7 (s : TField) (K : AV → Prop) : getW s.enc 7 K = K (s.Init.Items.av 8 encE) := by simp [TField.enc]
@[simp] theorem TField.seg3 (s : TField) : (s.enc.drop 3).take 5 = s.Init.enc := by rw [TValue.enc_eq]; rfl
theorem TField.cells (s : TField) : ∀ a,a ∈ s.enc → a.cell = true := by simp [TField.enc]
def TField.sz (s : TField) : Nat := s.Name.length + s.Owner.length + s.Init.sz
def TField.ok (s : TField) : Prop := s.Name.length ≤ mx ∧ s.Owner.length ≤ mx ∧ s.Init.ok
def TField.con (s : TField) : TField := { s with Init := s.Init.con }
theorem TField.sz_con (s : TField) : s.con.sz = s.sz := by
  simp [TField.sz,TField.con,TValue.sz_con]
theorem TField.eq_fn {a b : TField} (h : a.sz ≤ 1099511627776) (he : a.con = b.con) : Fnc Tryz.prog 160 [.agg a.enc,.agg b.enc] (.bool true) := by
  simp only [TField.sz] at h
  have e0 : a.Name = b.Name := (congrArg TField.Name he : a.con.Name = b.con.Name)
  have e1 : a.Owner = b.Owner := (congrArg TField.Owner he : a.con.Owner = b.con.Owner)
  have e2 : a.Private = b.Private := (congrArg TField.Private he : a.con.Private = b.con.Private)
  have e3 : a.Init.con = b.Init.con := congrArg TField.Init he
  refine fn_of c160 (by simp [F160]) fun c => ?_
  unfold F160
  simp [e0,e1,e2]
  refine call_fn0 (TValue.eq_fn (by omega) e3) .bool fun _ _ => ?_
  simp [e0,e1,e2]
  exact fin_plain ⟨rfl,rfl⟩
def szFieldS (s : SL TField) : Nat := s.list.length + szL TField.sz s.list
def okFieldS (s : SL TField) : Prop := s.list.length ≤ mx ∧ ∀ x,x ∈ s.list → TField.ok x
theorem eqFieldS_fn {s t : SL TField} (h : szFieldS s ≤ 1099511627776) (he : s.list.map TField.con = t.list.map TField.con) : Fnc Tryz.prog 117 [s.av 8 TField.enc,t.av 8 TField.enc] (.bool true) := by
  unfold szFieldS at h
  exact eqS_fn (g := 160) (con := TField.con) c117 (fun _ => rfl) (by unfold mx; omega) he fun x hx y hxy => TField.eq_fn (by have := szL_mem (sz := TField.sz) hx; omega) hxy
structure TClass where
  Name : List UInt8
  Parent : List UInt8
  Fields : SL TField
  Methods : SL TMethod
def TClass.enc (s : TClass) : List AV := [.str s.Name,.str s.Parent,s.Fields.av 8 TField.enc,s.Methods.av 5 TMethod.enc]
@[simp] theorem TClass.len (s : TClass) : s.enc.length = 4 := (rfl)
@[simp] theorem TClass.all (s : TClass) : s.enc.take 4 = s.enc := (rfl)
@[simp] theorem TClass.g0 (s : TClass) (K : AV → Prop) : getW s.enc 0 K = K (.str s.Name) := by simp [TClass.enc]
@[simp] theorem TClass.g1 (s : TClass) (K : AV → Prop) : getW s.enc 1 K = K (.str s.Parent) := by simp [TClass.enc]
@[simp] theorem TClass.g2 (s : TClass) (K : AV → Prop) : getW s.enc 2 K = K (s.Fields.av 8 TField.enc) := by simp [TClass.enc]
@[simp] theorem TClass.g3 (s : TClass) (K : AV → Prop) : getW s.enc 3 K = K (s.Methods.av 5 TMethod.enc) := by simp [TClass.enc]
theorem TClass.cells (s : TClass) : ∀ a,a ∈ s.enc → a.cell = true := by simp [TClass.enc]
def TClass.sz (s : TClass) : Nat := s.Name.length + s.Parent.length + (szFieldS s.Fields) + (szMethodS s.Methods)
def TClass.ok (s : TClass) : Prop := s.Name.length ≤ mx ∧ s.Parent.length ≤ mx ∧ okFieldS s.Fields ∧ okMethodS s.Methods
def TClass.con (s : TClass) : TClass := { s with Fields := s.Fields.con TField.con,Methods := s.Methods.con TMethod.con }
theorem TClass.sz_con (s : TClass) : s.con.sz = s.sz := by
  simp [TClass.sz,TClass.con,szFieldS,szMethodS,szL_map TField.sz_con,szL_map TMethod.sz_con]
theorem TClass.eq_fn {a b : TClass} (h : a.sz ≤ 1099511627776) (he : a.con = b.con) : Fnc Tryz.prog 69 [.agg a.enc,.agg b.enc] (.bool true) := by
  simp only [TClass.sz] at h
  have e0 : a.Name = b.Name := (congrArg TClass.Name he : a.con.Name = b.con.Name)
  have e1 : a.Parent = b.Parent := (congrArg TClass.Parent he : a.con.Parent = b.con.Parent)
  have e2 : a.Fields.list.map TField.con = b.Fields.list.map TField.con := congrArg (fun s => s.Fields.list) he
  have e3 : a.Methods.list.map TMethod.con = b.Methods.list.map TMethod.con := congrArg (fun s => s.Methods.list) he
  refine fn_of c69 (by simp [F69]) fun c => ?_
  unfold F69
  simp [e0,e1]
  refine call_fn0 (eqFieldS_fn (by omega) e2) .bool fun _ _ => ?_
  simp [e0,e1]
  refine call_fn0 (eqMethodS_fn (by omega) e3) .bool fun _ _ => ?_
  simp [e0,e1]
  exact fin_plain ⟨rfl,rfl⟩
def szClassS (s : SL TClass) : Nat := s.list.length + szL TClass.sz s.list
def okClassS (s : SL TClass) : Prop := s.list.length ≤ mx ∧ ∀ x,x ∈ s.list → TClass.ok x
theorem eqClassS_fn {s t : SL TClass} (h : szClassS s ≤ 1099511627776) (he : s.list.map TClass.con = t.list.map TClass.con) : Fnc Tryz.prog 35 [s.av 4 TClass.enc,t.av 4 TClass.enc] (.bool true) := by
  unfold szClassS at h
  exact eqS_fn (g := 69) (con := TClass.con) c35 (fun _ => rfl) (by unfold mx; omega) he fun x hx y hxy => TClass.eq_fn (by have := szL_mem (sz := TClass.sz) hx; omega) hxy
structure TProgram where
  Funcs : SL TFunc
  Classes : SL TClass
def TProgram.enc (s : TProgram) : List AV := [s.Funcs.av 6 TFunc.enc,s.Classes.av 4 TClass.enc]
@[simp] theorem TProgram.len (s : TProgram) : s.enc.length = 2 := (rfl)
@[simp] theorem TProgram.all (s : TProgram) : s.enc.take 2 = s.enc := (rfl)
@[simp] theorem TProgram.g0 (s : TProgram) (K : AV → Prop) : getW s.enc 0 K = K (s.Funcs.av 6 TFunc.enc) := by simp [TProgram.enc]
@[simp] theorem TProgram.g1 (s : TProgram) (K : AV → Prop) : getW s.enc 1 K = K (s.Classes.av 4 TClass.enc) := by simp [TProgram.enc]
theorem TProgram.cells (s : TProgram) : ∀ a,a ∈ s.enc → a.cell = true := by simp [TProgram.enc]
def TProgram.sz (s : TProgram) : Nat := (szFuncS s.Funcs) + (szClassS s.Classes)
def TProgram.ok (s : TProgram) : Prop := okFuncS s.Funcs ∧ okClassS s.Classes
def TProgram.con (s : TProgram) : TProgram := { s with Funcs := s.Funcs.con TFunc.con,Classes := s.Classes.con TClass.con }
theorem TProgram.sz_con (s : TProgram) : s.con.sz = s.sz := by
  simp [TProgram.sz,TProgram.con,szFuncS,szClassS,szL_map TFunc.sz_con,szL_map TClass.sz_con]
theorem TProgram.eq_fn {a b : TProgram} (h : a.sz ≤ 1099511627776) (he : a.con = b.con) : Fnc Tryz.prog 12 [.agg a.enc,.agg b.enc] (.bool true) := by
  simp only [TProgram.sz] at h
  have e0 : a.Funcs.list.map TFunc.con = b.Funcs.list.map TFunc.con := congrArg (fun s => s.Funcs.list) he
  have e1 : a.Classes.list.map TClass.con = b.Classes.list.map TClass.con := congrArg (fun s => s.Classes.list) he
  refine fn_of c12 (by simp [F12]) fun c => ?_
  unfold F12
  simp []
  refine call_fn0 (eqFuncS_fn (by omega) e0) .bool fun _ _ => ?_
  simp []
  refine call_fn0 (eqClassS_fn (by omega) e1) .bool fun _ _ => ?_
  simp []
  exact fin_plain ⟨rfl,rfl⟩
set_option maxRecDepth 100000
def inR (x lo hi : Int) : Bool := decide (lo ≤ x) && decide (x ≤ hi)
theorem l1In_fn (x lo hi : Int) : Fnc Tryz.prog 54 [.int .i64 x,.int .i64 lo,.int .i64 hi] (.bool (inR x lo hi)) := by
  refine fn_of c54 (by simp [F54]) fun c => ?_
  unfold F54 inR
  by_cases h1 : lo ≤ x <;> simp [h1] <;> exact fin_plain ⟨rfl,rfl⟩
theorem inRange_fn (x lo hi : Int) : Fnc Tryz.prog 66 [.int .i64 x,.int .i64 lo,.int .i64 hi] (.bool (inR x lo hi)) := by
  refine fn_of c66 (by simp [F66]) fun c => ?_
  unfold F66 inR
  by_cases h1 : lo ≤ x <;> simp [h1] <;> exact fin_plain ⟨rfl,rfl⟩
theorem inR_true {x lo hi : Int} (h : inR x lo hi = true) : lo ≤ x ∧ x ≤ hi := by simpa [inR] using h
theorem all_step {α : Type} {p : α → Bool} {l : List α} {i : Nat} (h : (l.take i).all p = true) (hi : i < l.length) (hx : p l[i] = true) : (l.take (i + 1)).all p = true := by
  rw [List.take_succ_eq_append_getElem hi,List.all_append,h]; simp [hx]
set_option maxRecDepth 100000
def insNeed (x : TIns) : Int := if x.Op ∈ ([6,8,10,11,13,17,28,29,30,33,34,37,42,43,50,54] : List Int) then 1 else if x.Op ∈ ([12,16,41,51,52,53] : List Int) then 2 else if x.Op ∈ ([15] : List Int) then IntKind.i64.wrap (2 + x.B) else if x.Op ∈ ([18,19] : List Int) then IntKind.i64.wrap (IntKind.i64.wrap (x.B.tdiv 2) + 1) else if x.Op ∈ ([20] : List Int) then IntKind.i64.wrap (IntKind.i64.wrap (x.B.tdiv 2) + 2) else if x.Op ∈ ([21,22] : List Int) then x.B else if x.Op ∈ ([23] : List Int) then IntKind.i64.wrap (x.B + 1) else 0
theorem impl_insNeed (x : TIns) : Fnc Tryz.prog 184 [.agg x.enc] (.int .i64 (insNeed x)) := by
  refine fn_of c184 (by simp [F184]) fun c => ?_
  unfold F184
  by_cases h0 : x.Op ∈ ([6,8,10,11,13,17,28,29,30,33,34,37,42,43,50,54] : List Int)
  · have e : insNeed x = 1 := by unfold insNeed; exact if_pos h0
    simp only [List.mem_cons,List.not_mem_nil,or_false] at h0
    rcases h0 with h | h | h | h | h | h | h | h | h | h | h | h | h | h | h | h <;> (simp [h]; exact fin_plain ⟨by rw [e],rfl⟩)
  by_cases h1 : x.Op ∈ ([12,16,41,51,52,53] : List Int)
  · have e : insNeed x = 2 := by unfold insNeed; rw [if_neg h0]; exact if_pos h1
    simp only [List.mem_cons,List.not_mem_nil,or_false] at h1
    rcases h1 with h | h | h | h | h | h <;> (simp [h]; exact fin_plain ⟨by rw [e],rfl⟩)
  by_cases h2 : x.Op ∈ ([15] : List Int)
  · have e : insNeed x = IntKind.i64.wrap (2 + x.B) := by unfold insNeed; rw [if_neg h0]; rw [if_neg h1]; exact if_pos h2
    have h : x.Op = 15 := by simpa using h2
    simp [h]
    exact fin_plain ⟨by rw [e],rfl⟩
  by_cases h3 : x.Op ∈ ([18,19] : List Int)
  · have e : insNeed x = IntKind.i64.wrap (IntKind.i64.wrap (x.B.tdiv 2) + 1) := by unfold insNeed; rw [if_neg h0]; rw [if_neg h1]; rw [if_neg h2]; exact if_pos h3
    simp only [List.mem_cons,List.not_mem_nil,or_false] at h3
    rcases h3 with h | h <;> (simp [h]; exact fin_plain ⟨by rw [e],rfl⟩)
  by_cases h4 : x.Op ∈ ([20] : List Int)
  · have e : insNeed x = IntKind.i64.wrap (IntKind.i64.wrap (x.B.tdiv 2) + 2) := by unfold insNeed; rw [if_neg h0]; rw [if_neg h1]; rw [if_neg h2]; rw [if_neg h3]; exact if_pos h4
    have h : x.Op = 20 := by simpa using h4
    simp [h]
    exact fin_plain ⟨by rw [e],rfl⟩
  by_cases h5 : x.Op ∈ ([21,22] : List Int)
  · have e : insNeed x = x.B := by unfold insNeed; rw [if_neg h0]; rw [if_neg h1]; rw [if_neg h2]; rw [if_neg h3]; rw [if_neg h4]; exact if_pos h5
    simp only [List.mem_cons,List.not_mem_nil,or_false] at h5
    rcases h5 with h | h <;> (simp [h]; exact fin_plain ⟨by rw [e],rfl⟩)
  by_cases h6 : x.Op ∈ ([23] : List Int)
  · have e : insNeed x = IntKind.i64.wrap (x.B + 1) := by unfold insNeed; rw [if_neg h0]; rw [if_neg h1]; rw [if_neg h2]; rw [if_neg h3]; rw [if_neg h4]; rw [if_neg h5]; exact if_pos h6
    have h : x.Op = 23 := by simpa using h6
    simp [h]
    exact fin_plain ⟨by rw [e],rfl⟩
  have e : insNeed x = 0 := by unfold insNeed; rw [if_neg h0,if_neg h1,if_neg h2,if_neg h3,if_neg h4,if_neg h5,if_neg h6]
  simp only [List.mem_cons,List.not_mem_nil,or_false,not_or] at h0 h1 h2 h3 h4 h5 h6
  simp [h0,h1,h2,h3,h4,h5,h6]
  exact fin_plain ⟨by rw [e],rfl⟩
theorem spec_insNeed (x : TIns) : Fnc Tryz.prog 170 [.agg x.enc] (.int .i64 (insNeed x)) := by
  refine fn_of c170 (by simp [F170]) fun c => ?_
  unfold F170
  by_cases h0 : x.Op ∈ ([6,8,10,11,13,17,28,29,30,33,34,37,42,43,50,54] : List Int)
  · have e : insNeed x = 1 := by unfold insNeed; exact if_pos h0
    simp only [List.mem_cons,List.not_mem_nil,or_false] at h0
    rcases h0 with h | h | h | h | h | h | h | h | h | h | h | h | h | h | h | h <;> (simp [h]; exact fin_plain ⟨by rw [e],rfl⟩)
  by_cases h1 : x.Op ∈ ([12,16,41,51,52,53] : List Int)
  · have e : insNeed x = 2 := by unfold insNeed; rw [if_neg h0]; exact if_pos h1
    simp only [List.mem_cons,List.not_mem_nil,or_false] at h1
    rcases h1 with h | h | h | h | h | h <;> (simp [h]; exact fin_plain ⟨by rw [e],rfl⟩)
  by_cases h2 : x.Op ∈ ([15] : List Int)
  · have e : insNeed x = IntKind.i64.wrap (2 + x.B) := by unfold insNeed; rw [if_neg h0]; rw [if_neg h1]; exact if_pos h2
    have h : x.Op = 15 := by simpa using h2
    simp [h]
    exact fin_plain ⟨by rw [e],rfl⟩
  by_cases h3 : x.Op ∈ ([18,19] : List Int)
  · have e : insNeed x = IntKind.i64.wrap (IntKind.i64.wrap (x.B.tdiv 2) + 1) := by unfold insNeed; rw [if_neg h0]; rw [if_neg h1]; rw [if_neg h2]; exact if_pos h3
    simp only [List.mem_cons,List.not_mem_nil,or_false] at h3
    rcases h3 with h | h <;> (simp [h]; exact fin_plain ⟨by rw [e],rfl⟩)
  by_cases h4 : x.Op ∈ ([20] : List Int)
  · have e : insNeed x = IntKind.i64.wrap (IntKind.i64.wrap (x.B.tdiv 2) + 2) := by unfold insNeed; rw [if_neg h0]; rw [if_neg h1]; rw [if_neg h2]; rw [if_neg h3]; exact if_pos h4
    have h : x.Op = 20 := by simpa using h4
    simp [h]
    exact fin_plain ⟨by rw [e],rfl⟩
  by_cases h5 : x.Op ∈ ([21,22] : List Int)
  · have e : insNeed x = x.B := by unfold insNeed; rw [if_neg h0]; rw [if_neg h1]; rw [if_neg h2]; rw [if_neg h3]; rw [if_neg h4]; exact if_pos h5
    simp only [List.mem_cons,List.not_mem_nil,or_false] at h5
    rcases h5 with h | h <;> (simp [h]; exact fin_plain ⟨by rw [e],rfl⟩)
  by_cases h6 : x.Op ∈ ([23] : List Int)
  · have e : insNeed x = IntKind.i64.wrap (x.B + 1) := by unfold insNeed; rw [if_neg h0]; rw [if_neg h1]; rw [if_neg h2]; rw [if_neg h3]; rw [if_neg h4]; rw [if_neg h5]; exact if_pos h6
    have h : x.Op = 23 := by simpa using h6
    simp [h]
    exact fin_plain ⟨by rw [e],rfl⟩
  have e : insNeed x = 0 := by unfold insNeed; rw [if_neg h0,if_neg h1,if_neg h2,if_neg h3,if_neg h4,if_neg h5,if_neg h6]
  simp only [List.mem_cons,List.not_mem_nil,or_false,not_or] at h0 h1 h2 h3 h4 h5 h6
  simp [h0,h1,h2,h3,h4,h5,h6]
  exact fin_plain ⟨by rw [e],rfl⟩
def insChange (x : TIns) : Int := if x.Op ∈ ([2,3,4,5,7,9,14,24,25,40,50,56] : List Int) then 1 else if x.Op ∈ ([10,12,16,28,29,30,33,34,37,41,42,43] : List Int) then -1 else if x.Op ∈ ([15] : List Int) then IntKind.i64.wrap (-1 - x.B) else if x.Op ∈ ([18,19] : List Int) then IntKind.i64.wrap (-IntKind.i64.wrap (x.B.tdiv 2)) else if x.Op ∈ ([20] : List Int) then IntKind.i64.wrap (IntKind.i64.wrap (-IntKind.i64.wrap (x.B.tdiv 2)) - 1) else if x.Op ∈ ([21,22] : List Int) then IntKind.i64.wrap (-x.B) else if x.Op ∈ ([23] : List Int) then IntKind.i64.wrap (IntKind.i64.wrap (-x.B) - 1) else if x.Op ∈ ([52] : List Int) then IntKind.i64.wrap (1 + x.B) else if x.Op ∈ ([53] : List Int) then -2 else 0
theorem impl_insChange (x : TIns) : Fnc Tryz.prog 186 [.agg x.enc] (.int .i64 (insChange x)) := by
  refine fn_of c186 (by simp [F186]) fun c => ?_
  unfold F186
  by_cases h0 : x.Op ∈ ([2,3,4,5,7,9,14,24,25,40,50,56] : List Int)
  · have e : insChange x = 1 := by unfold insChange; exact if_pos h0
    simp only [List.mem_cons,List.not_mem_nil,or_false] at h0
    rcases h0 with h | h | h | h | h | h | h | h | h | h | h | h <;> (simp [h]; exact fin_plain ⟨by rw [e],rfl⟩)
  by_cases h1 : x.Op ∈ ([10,12,16,28,29,30,33,34,37,41,42,43] : List Int)
  · have e : insChange x = -1 := by unfold insChange; rw [if_neg h0]; exact if_pos h1
    simp only [List.mem_cons,List.not_mem_nil,or_false] at h1
    rcases h1 with h | h | h | h | h | h | h | h | h | h | h | h <;> (simp [h]; exact fin_plain ⟨by rw [e],rfl⟩)
  by_cases h2 : x.Op ∈ ([15] : List Int)
  · have e : insChange x = IntKind.i64.wrap (-1 - x.B) := by unfold insChange; rw [if_neg h0]; rw [if_neg h1]; exact if_pos h2
    have h : x.Op = 15 := by simpa using h2
    simp [h]
    exact fin_plain ⟨by rw [e],rfl⟩
  by_cases h3 : x.Op ∈ ([18,19] : List Int)
  · have e : insChange x = IntKind.i64.wrap (-IntKind.i64.wrap (x.B.tdiv 2)) := by unfold insChange; rw [if_neg h0]; rw [if_neg h1]; rw [if_neg h2]; exact if_pos h3
    simp only [List.mem_cons,List.not_mem_nil,or_false] at h3
    rcases h3 with h | h <;> (simp [h]; exact fin_plain ⟨by rw [e],rfl⟩)
  by_cases h4 : x.Op ∈ ([20] : List Int)
  · have e : insChange x = IntKind.i64.wrap (IntKind.i64.wrap (-IntKind.i64.wrap (x.B.tdiv 2)) - 1) := by unfold insChange; rw [if_neg h0]; rw [if_neg h1]; rw [if_neg h2]; rw [if_neg h3]; exact if_pos h4
    have h : x.Op = 20 := by simpa using h4
    simp [h]
    exact fin_plain ⟨by rw [e],rfl⟩
  by_cases h5 : x.Op ∈ ([21,22] : List Int)
  · have e : insChange x = IntKind.i64.wrap (-x.B) := by unfold insChange; rw [if_neg h0]; rw [if_neg h1]; rw [if_neg h2]; rw [if_neg h3]; rw [if_neg h4]; exact if_pos h5
    simp only [List.mem_cons,List.not_mem_nil,or_false] at h5
    rcases h5 with h | h <;> (simp [h]; exact fin_plain ⟨by rw [e],rfl⟩)
  by_cases h6 : x.Op ∈ ([23] : List Int)
  · have e : insChange x = IntKind.i64.wrap (IntKind.i64.wrap (-x.B) - 1) := by unfold insChange; rw [if_neg h0]; rw [if_neg h1]; rw [if_neg h2]; rw [if_neg h3]; rw [if_neg h4]; rw [if_neg h5]; exact if_pos h6
    have h : x.Op = 23 := by simpa using h6
    simp [h]
    exact fin_plain ⟨by rw [e],rfl⟩
  by_cases h7 : x.Op ∈ ([52] : List Int)
  · have e : insChange x = IntKind.i64.wrap (1 + x.B) := by unfold insChange; rw [if_neg h0]; rw [if_neg h1]; rw [if_neg h2]; rw [if_neg h3]; rw [if_neg h4]; rw [if_neg h5]; rw [if_neg h6]; exact if_pos h7
    have h : x.Op = 52 := by simpa using h7
    simp [h]
    exact fin_plain ⟨by rw [e],rfl⟩
  by_cases h8 : x.Op ∈ ([53] : List Int)
  · have e : insChange x = -2 := by unfold insChange; rw [if_neg h0]; rw [if_neg h1]; rw [if_neg h2]; rw [if_neg h3]; rw [if_neg h4]; rw [if_neg h5]; rw [if_neg h6]; rw [if_neg h7]; exact if_pos h8
    have h : x.Op = 53 := by simpa using h8
    simp [h]
    exact fin_plain ⟨by rw [e],rfl⟩
  have e : insChange x = 0 := by unfold insChange; rw [if_neg h0,if_neg h1,if_neg h2,if_neg h3,if_neg h4,if_neg h5,if_neg h6,if_neg h7,if_neg h8]
  simp only [List.mem_cons,List.not_mem_nil,or_false,not_or] at h0 h1 h2 h3 h4 h5 h6 h7 h8
  simp [h0,h1,h2,h3,h4,h5,h6,h7,h8]
  exact fin_plain ⟨by rw [e],rfl⟩
theorem spec_insChange (x : TIns) : Fnc Tryz.prog 173 [.agg x.enc] (.int .i64 (insChange x)) := by
  refine fn_of c173 (by simp [F173]) fun c => ?_
  unfold F173
  by_cases h0 : x.Op ∈ ([2,3,4,5,7,9,14,24,25,40,50,56] : List Int)
  · have e : insChange x = 1 := by unfold insChange; exact if_pos h0
    simp only [List.mem_cons,List.not_mem_nil,or_false] at h0
    rcases h0 with h | h | h | h | h | h | h | h | h | h | h | h <;> (simp [h]; exact fin_plain ⟨by rw [e],rfl⟩)
  by_cases h1 : x.Op ∈ ([10,12,16,28,29,30,33,34,37,41,42,43] : List Int)
  · have e : insChange x = -1 := by unfold insChange; rw [if_neg h0]; exact if_pos h1
    simp only [List.mem_cons,List.not_mem_nil,or_false] at h1
    rcases h1 with h | h | h | h | h | h | h | h | h | h | h | h <;> (simp [h]; exact fin_plain ⟨by rw [e],rfl⟩)
  by_cases h2 : x.Op ∈ ([15] : List Int)
  · have e : insChange x = IntKind.i64.wrap (-1 - x.B) := by unfold insChange; rw [if_neg h0]; rw [if_neg h1]; exact if_pos h2
    have h : x.Op = 15 := by simpa using h2
    simp [h]
    exact fin_plain ⟨by rw [e],rfl⟩
  by_cases h3 : x.Op ∈ ([18,19] : List Int)
  · have e : insChange x = IntKind.i64.wrap (-IntKind.i64.wrap (x.B.tdiv 2)) := by unfold insChange; rw [if_neg h0]; rw [if_neg h1]; rw [if_neg h2]; exact if_pos h3
    simp only [List.mem_cons,List.not_mem_nil,or_false] at h3
    rcases h3 with h | h <;> (simp [h]; exact fin_plain ⟨by rw [e],rfl⟩)
  by_cases h4 : x.Op ∈ ([20] : List Int)
  · have e : insChange x = IntKind.i64.wrap (IntKind.i64.wrap (-IntKind.i64.wrap (x.B.tdiv 2)) - 1) := by unfold insChange; rw [if_neg h0]; rw [if_neg h1]; rw [if_neg h2]; rw [if_neg h3]; exact if_pos h4
    have h : x.Op = 20 := by simpa using h4
    simp [h]
    exact fin_plain ⟨by rw [e],rfl⟩
  by_cases h5 : x.Op ∈ ([21,22] : List Int)
  · have e : insChange x = IntKind.i64.wrap (-x.B) := by unfold insChange; rw [if_neg h0]; rw [if_neg h1]; rw [if_neg h2]; rw [if_neg h3]; rw [if_neg h4]; exact if_pos h5
    simp only [List.mem_cons,List.not_mem_nil,or_false] at h5
    rcases h5 with h | h <;> (simp [h]; exact fin_plain ⟨by rw [e],rfl⟩)
  by_cases h6 : x.Op ∈ ([23] : List Int)
  · have e : insChange x = IntKind.i64.wrap (IntKind.i64.wrap (-x.B) - 1) := by unfold insChange; rw [if_neg h0]; rw [if_neg h1]; rw [if_neg h2]; rw [if_neg h3]; rw [if_neg h4]; rw [if_neg h5]; exact if_pos h6
    have h : x.Op = 23 := by simpa using h6
    simp [h]
    exact fin_plain ⟨by rw [e],rfl⟩
  by_cases h7 : x.Op ∈ ([52] : List Int)
  · have e : insChange x = IntKind.i64.wrap (1 + x.B) := by unfold insChange; rw [if_neg h0]; rw [if_neg h1]; rw [if_neg h2]; rw [if_neg h3]; rw [if_neg h4]; rw [if_neg h5]; rw [if_neg h6]; exact if_pos h7
    have h : x.Op = 52 := by simpa using h7
    simp [h]
    exact fin_plain ⟨by rw [e],rfl⟩
  by_cases h8 : x.Op ∈ ([53] : List Int)
  · have e : insChange x = -2 := by unfold insChange; rw [if_neg h0]; rw [if_neg h1]; rw [if_neg h2]; rw [if_neg h3]; rw [if_neg h4]; rw [if_neg h5]; rw [if_neg h6]; rw [if_neg h7]; exact if_pos h8
    have h : x.Op = 53 := by simpa using h8
    simp [h]
    exact fin_plain ⟨by rw [e],rfl⟩
  have e : insChange x = 0 := by unfold insChange; rw [if_neg h0,if_neg h1,if_neg h2,if_neg h3,if_neg h4,if_neg h5,if_neg h6,if_neg h7,if_neg h8]
  simp only [List.mem_cons,List.not_mem_nil,or_false,not_or] at h0 h1 h2 h3 h4 h5 h6 h7 h8
  simp [h0,h1,h2,h3,h4,h5,h6,h7,h8]
  exact fin_plain ⟨by rw [e],rfl⟩
def hasTarget (op : Int) : Bool := if op ∈ ([27,28,29,44,45,49,52] : List Int) then true else false
theorem impl_hasTarget (op : Int) : Fnc Tryz.prog 187 [.int .i64 op] (.bool (hasTarget op)) := by
  refine fn_of c187 (by simp [F187]) fun c => ?_
  unfold F187
  by_cases h0 : op ∈ ([27,28,29,44,45,49,52] : List Int)
  · have e : hasTarget op = true := by unfold hasTarget; exact if_pos h0
    simp only [List.mem_cons,List.not_mem_nil,or_false] at h0
    rcases h0 with h | h | h | h | h | h | h <;> (rw [h] at e; simp [h]; exact fin_plain ⟨by rw [e],rfl⟩)
  have e : hasTarget op = false := by unfold hasTarget; rw [if_neg h0]
  simp only [List.mem_cons,List.not_mem_nil,or_false,not_or] at h0
  simp [h0]
  exact fin_plain ⟨by rw [e],rfl⟩
theorem spec_hasTarget (op : Int) : Fnc Tryz.prog 174 [.int .i64 op] (.bool (hasTarget op)) := by
  refine fn_of c174 (by simp [F174]) fun c => ?_
  unfold F174
  by_cases h0 : op ∈ ([27,28,29,44,45,49,52] : List Int)
  · have e : hasTarget op = true := by unfold hasTarget; exact if_pos h0
    simp only [List.mem_cons,List.not_mem_nil,or_false] at h0
    rcases h0 with h | h | h | h | h | h | h <;> (rw [h] at e; simp [h]; exact fin_plain ⟨by rw [e],rfl⟩)
  have e : hasTarget op = false := by unfold hasTarget; rw [if_neg h0]
  simp only [List.mem_cons,List.not_mem_nil,or_false,not_or] at h0
  simp [h0]
  exact fin_plain ⟨by rw [e],rfl⟩
def targetChange (op : Int) : Int := if op ∈ ([28] : List Int) then -1 else if op ∈ ([44] : List Int) then 1 else 0
theorem impl_targetChange (op : Int) : Fnc Tryz.prog 188 [.int .i64 op] (.int .i64 (targetChange op)) := by
  refine fn_of c188 (by simp [F188]) fun c => ?_
  unfold F188
  by_cases h0 : op ∈ ([28] : List Int)
  · have e : targetChange op = -1 := by unfold targetChange; exact if_pos h0
    have h : op = 28 := by simpa using h0
    rw [h] at e; simp [h]
    exact fin_plain ⟨by rw [e],rfl⟩
  by_cases h1 : op ∈ ([44] : List Int)
  · have e : targetChange op = 1 := by unfold targetChange; rw [if_neg h0]; exact if_pos h1
    have h : op = 44 := by simpa using h1
    rw [h] at e; simp [h]
    exact fin_plain ⟨by rw [e],rfl⟩
  have e : targetChange op = 0 := by unfold targetChange; rw [if_neg h0,if_neg h1]
  simp only [List.mem_cons,List.not_mem_nil,or_false,not_or] at h0 h1
  simp [h0,h1]
  exact fin_plain ⟨by rw [e],rfl⟩
theorem spec_targetChange (op : Int) : Fnc Tryz.prog 175 [.int .i64 op] (.int .i64 (targetChange op)) := by
  refine fn_of c175 (by simp [F175]) fun c => ?_
  unfold F175
  by_cases h0 : op ∈ ([28] : List Int)
  · have e : targetChange op = -1 := by unfold targetChange; exact if_pos h0
    have h : op = 28 := by simpa using h0
    rw [h] at e; simp [h]
    exact fin_plain ⟨by rw [e],rfl⟩
  by_cases h1 : op ∈ ([44] : List Int)
  · have e : targetChange op = 1 := by unfold targetChange; rw [if_neg h0]; exact if_pos h1
    have h : op = 44 := by simpa using h1
    rw [h] at e; simp [h]
    exact fin_plain ⟨by rw [e],rfl⟩
  have e : targetChange op = 0 := by unfold targetChange; rw [if_neg h0,if_neg h1]
  simp only [List.mem_cons,List.not_mem_nil,or_false,not_or] at h0 h1
  simp [h0,h1]
  exact fin_plain ⟨by rw [e],rfl⟩
def slotOp (op : Int) : Bool := if op ∈ ([5,6,18,21,24,26,38] : List Int) then true else false
theorem impl_slotOp (op : Int) : Fnc Tryz.prog 226 [.int .i64 op] (.bool (slotOp op)) := by
  refine fn_of c226 (by simp [F226]) fun c => ?_
  unfold F226
  by_cases h0 : op ∈ ([5,6,18,21,24,26,38] : List Int)
  · have e : slotOp op = true := by unfold slotOp; exact if_pos h0
    simp only [List.mem_cons,List.not_mem_nil,or_false] at h0
    rcases h0 with h | h | h | h | h | h | h <;> (rw [h] at e; simp [h]; exact fin_plain ⟨by rw [e],rfl⟩)
  have e : slotOp op = false := by unfold slotOp; rw [if_neg h0]
  simp only [List.mem_cons,List.not_mem_nil,or_false,not_or] at h0
  simp [h0]
  exact fin_plain ⟨by rw [e],rfl⟩
theorem spec_slotOp (op : Int) : Fnc Tryz.prog 208 [.int .i64 op] (.bool (slotOp op)) := by
  refine fn_of c208 (by simp [F208]) fun c => ?_
  unfold F208
  by_cases h0 : op ∈ ([5,6,18,21,24,26,38] : List Int)
  · have e : slotOp op = true := by unfold slotOp; exact if_pos h0
    simp only [List.mem_cons,List.not_mem_nil,or_false] at h0
    rcases h0 with h | h | h | h | h | h | h <;> (rw [h] at e; simp [h]; exact fin_plain ⟨by rw [e],rfl⟩)
  have e : slotOp op = false := by unfold slotOp; rw [if_neg h0]
  simp only [List.mem_cons,List.not_mem_nil,or_false,not_or] at h0
  simp [h0]
  exact fin_plain ⟨by rw [e],rfl⟩
def textOp (op : Int) : Int := if op ∈ ([3,31,55,56,35,36] : List Int) then 1 else if op ∈ ([7,8,17,19,20,22,23,25,26,32,34,39,44] : List Int) then 2 else 0
theorem spec_textOp (op : Int) : Fnc Tryz.prog 207 [.int .i64 op] (.int .i64 (textOp op)) := by
  refine fn_of c207 (by simp [F207]) fun c => ?_
  unfold F207
  by_cases h0 : op ∈ ([3,31,55,56,35,36] : List Int)
  · have e : textOp op = 1 := by unfold textOp; exact if_pos h0
    simp only [List.mem_cons,List.not_mem_nil,or_false] at h0
    rcases h0 with h | h | h | h | h | h <;> (rw [h] at e; simp [h]; exact fin_plain ⟨by rw [e],rfl⟩)
  by_cases h1 : op ∈ ([7,8,17,19,20,22,23,25,26,32,34,39,44] : List Int)
  · have e : textOp op = 2 := by unfold textOp; rw [if_neg h0]; exact if_pos h1
    simp only [List.mem_cons,List.not_mem_nil,or_false] at h1
    rcases h1 with h | h | h | h | h | h | h | h | h | h | h | h | h <;> (rw [h] at e; simp [h]; exact fin_plain ⟨by rw [e],rfl⟩)
  have e : textOp op = 0 := by unfold textOp; rw [if_neg h0,if_neg h1]
  simp only [List.mem_cons,List.not_mem_nil,or_false,not_or] at h0 h1
  simp [h0,h1]
  exact fin_plain ⟨by rw [e],rfl⟩
set_option maxRecDepth 100000
def isL (b : UInt8) : Bool := inR b.toNat 97 122 || inR b.toNat 65 90 || decide (b.toNat = 95)
def isD (b : UInt8) : Bool := inR b.toNat 48 57
theorem wrap_b (b : UInt8) : IntKind.i64.wrap (b.toNat : Int) = b.toNat := by
  have := b.toNat_lt
  exact wrap64 (by omega) (by omega)
theorem letter_fn (b : UInt8) : Fnc Tryz.prog 210 [.int .u8 b.toNat] (.bool (isL b)) := by
  refine fn_of c210 (by simp [F210]) fun c => ?_
  unfold F210
  simp [wrap_b]
  refine call_fn0 (l1In_fn _ _ _) .bool fun _ _ => ?_
  cases h1 : inR b.toNat 97 122 <;> simp [wrap_b]
  · refine call_fn0 (l1In_fn _ _ _) .bool fun _ _ => ?_
    cases h2 : inR b.toNat 65 90 <;> simp
    · exact fin_plain ⟨by simp [isL,h1,h2]; omega,rfl⟩
    · exact fin_plain ⟨by simp [isL,h1,h2],rfl⟩
  · exact fin_plain ⟨by simp [isL,h1],rfl⟩
theorem digit_fn (b : UInt8) : Fnc Tryz.prog 211 [.int .u8 b.toNat] (.bool (isD b)) := by
  refine fn_of c211 (by simp [F211]) fun c => ?_
  unfold F211
  simp [wrap_b]
  refine call_fn0 (l1In_fn _ _ _) .bool fun _ _ => ?_
  simp
  exact fin_plain ⟨rfl,rfl⟩
def isA (b : UInt8) : Bool := inR b.toNat 65 90 || inR b.toNat 97 122
theorem isLetter_fn (b : UInt8) : Fnc Tryz.prog 216 [.int .u8 b.toNat] (.bool (isA b)) := by
  refine fn_of c216 (by simp [F216]) fun c => ?_
  unfold F216 isA inR
  by_cases h1 : (65 : Int) ≤ b.toNat <;> by_cases h2 : (b.toNat : Int) ≤ 90 <;> by_cases h3 : (97 : Int) ≤ b.toNat <;> simp [h1,h2,h3] <;> exact fin_plain (by simp)
theorem isDigit_fn (b : UInt8) : Fnc Tryz.prog 217 [.int .u8 b.toNat] (.bool (isD b)) := by
  refine fn_of c217 (by simp [F217]) fun c => ?_
  unfold F217 isD inR
  by_cases h1 : (48 : Int) ≤ b.toNat <;> simp [h1] <;> exact fin_plain (by simp)
theorem isL_A (b : UInt8) : isL b = (isA b || decide (b.toNat = 95)) := by
  simp [isL,isA,Bool.or_comm (inR b.toNat 97 122)]
set_option maxRecDepth 100000
def nm : List UInt8 → Nat → Nat
  | [],i => i
  | b :: l,i => if isL b || (decide (0 < i) && isD b) then nm l (i + 1) else i
theorem nm_go {l : List UInt8} {i : Nat} (h : i < l.length) (e : (isL l[i] || (decide (0 < i) && isD l[i])) = true) : nm (l.drop i) i = nm (l.drop (i + 1)) (i + 1) := by
  rw [List.drop_eq_getElem_cons h,nm,if_pos e]
theorem nm_stop {l : List UInt8} {i : Nat} (h : i < l.length) (e : (isL l[i] || (decide (0 < i) && isD l[i])) = false) : nm (l.drop i) i = i := by
  rw [List.drop_eq_getElem_cons h,nm,if_neg (by simp only [e]; simp)]
theorem nm_end {l : List UInt8} {i : Nat} (h : l.length ≤ i) : nm (l.drop i) i = i := by
  rw [List.drop_eq_nil_of_le h]; rfl
theorem specName_fn {l : List UInt8} (hl : l.length ≤ mx) : Fnc Tryz.prog 178 [.str l,.int .i64 0] (.int .i64 (nm l 0)) := by
  refine fn_of c178 (by simp [F178]) fun c => ?_
  unfold F178
  simp
  refine loop_drop l.length (fun i e H c' => e 0 = .str l ∧ e 1 = .int .i64 0 ∧ e 5 = .int .i64 i ∧ nm (l.drop i) i = nm l 0 ∧ H = []) ⟨rfl,rfl,rfl,by simp,rfl⟩ ?_
  intro i e H c hi ⟨e0,e1,e5,hd,hH⟩ N hN
  subst hH
  rcases Nat.lt_or_ge i l.length with h | h
  · have hb : l[i]? = some l[i] := List.getElem?_eq_getElem h
    have next : (isL l[i] || (decide (0 < i) && isD l[i])) = true → nm (l.drop (i + 1)) (i + 1) = nm l 0 := fun e => by rw [← hd,nm_go h e]
    have stop : (isL l[i] || (decide (0 < i) && isD l[i])) = false → i = nm l 0 := fun e => by rw [← hd,nm_stop h e]
    generalize l[i] = b at hb next stop
    simp [e0,e1,e5,h]
    refine ⟨_,hb,?_⟩
    simp [e0,e1,e5,h]
    refine call_fn0 (letter_fn b) .bool fun _ _ => ?_
    cases h1 : isL b
    · by_cases h2 : 0 < i
      · simp [e0,e1,e5,h,h2]
        refine ⟨_,hb,?_⟩
        simp [e0,e1,e5,h,h2]
        refine call_fn0 (digit_fn b) .bool fun _ _ => ?_
        cases h3 : isD b
        · simp [e0,e1,e5]
          exact fin_plain ⟨by rw [stop (by simp [h1,h3])],rfl⟩
        · simp [e0,e1,e5]
          exact hN _ _ _ _ h (List.Sublist.refl _) ⟨by simp [upd,e0],by simp [upd,e1],by simp [upd]; exact step64 hl h,next (by simp [h1,h2,h3]),rfl⟩
      · simp [e0,e1,e5,h,h2]
        exact fin_plain ⟨by rw [stop (by simp [h1,h2])],rfl⟩
    · simp [e0,e1,e5]
      exact hN _ _ _ _ h (List.Sublist.refl _) ⟨by simp [upd,e0],by simp [upd,e1],by simp [upd]; exact step64 hl h,next (by simp [h1]),rfl⟩
  · have : ¬ (i < l.length) := by omega
    simp [e0,e1,e5,this]
    exact fin_plain ⟨by rw [← hd,nm_end h],rfl⟩
theorem implName_fn {l : List UInt8} (hl : l.length ≤ mx) : Fnc Tryz.prog 189 [.str l] (.int .i64 (nm l 0)) := by
  refine fn_of c189 (by simp [F189]) fun c => ?_
  unfold F189
  simp
  refine loop_drop l.length (fun i e H c' => e 0 = .str l ∧ e 3 = .int .i64 i ∧ nm (l.drop i) i = nm l 0 ∧ H = []) ⟨rfl,rfl,by simp,rfl⟩ ?_
  intro i e H c hi ⟨e0,e3,hd,hH⟩ N hN
  subst hH
  rcases Nat.lt_or_ge i l.length with h | h
  · have hb : l[i]? = some l[i] := List.getElem?_eq_getElem h
    have next : (isL l[i] || (decide (0 < i) && isD l[i])) = true → nm (l.drop (i + 1)) (i + 1) = nm l 0 := fun e => by rw [← hd,nm_go h e]
    have stop : (isL l[i] || (decide (0 < i) && isD l[i])) = false → i = nm l 0 := fun e => by rw [← hd,nm_stop h e]
    generalize l[i] = b at hb next stop
    rw [isL_A] at next stop
    simp [e0,e3,h]
    refine ⟨_,hb,?_⟩
    simp [e0,e3,h]
    refine call_fn0 (isLetter_fn b) .bool fun _ _ => ?_
    cases h1 : isA b
    · simp [e0,e3,h]
      refine ⟨_,hb,?_⟩
      by_cases h4 : (b.toNat : Int) = 95
      · have h4' : b.toNat = 95 := by omega
        simp [e0,e3,h4]
        exact hN _ _ _ _ h (List.Sublist.refl _) ⟨by simp [upd,e0],by simp [upd]; exact step64 hl h,next (by simp [h4']),rfl⟩
      have h4' : ¬ b.toNat = 95 := by omega
      by_cases h2 : 0 < i
      · simp [e0,e3,h,h2,h4]
        refine ⟨_,hb,?_⟩
        simp [e0,e3,h,h2,h4]
        refine call_fn0 (isDigit_fn b) .bool fun _ _ => ?_
        cases h3 : isD b
        · simp [e0,e3,h2,h4]
          exact fin_plain ⟨by rw [stop (by simp [h1,h3,h4'])],rfl⟩
        · simp [e0,e3,h2,h4]
          exact hN _ _ _ _ h (List.Sublist.refl _) ⟨by simp [upd,e0],by simp [upd]; exact step64 hl h,next (by simp [h2,h3]),rfl⟩
      · simp [e0,e3,h,h2,h4]
        exact fin_plain ⟨by rw [stop (by simp [h1,h2,h4'])],rfl⟩
    · simp [e0,e3]
      exact hN _ _ _ _ h (List.Sublist.refl _) ⟨by simp [upd,e0],by simp [upd]; exact step64 hl h,next (by simp [h1]),rfl⟩
  · have : ¬ (i < l.length) := by omega
    simp [e0,e3,this]
    exact fin_plain ⟨by rw [← hd,nm_end h],rfl⟩
def isName (l : List UInt8) : Bool := decide (1 ≤ l.length) && decide (l.length ≤ 20) && decide (nm l 0 = l.length)
theorem spec_isName {l : List UInt8} (hl : l.length ≤ mx) : Fnc Tryz.prog 139 [.str l] (.bool (isName l)) := by
  refine fn_of c139 (by simp [F139]) fun c => ?_
  unfold F139
  by_cases h1 : (1 : Int) ≤ l.length
  · by_cases h2 : (l.length : Int) ≤ 20
    · simp [h1,h2]
      refine call_fn0 (specName_fn hl) .int fun _ _ => ?_
      by_cases h3 : nm l 0 = l.length
      · simp [h1,h2,h3]
        exact fin_plain ⟨by simp [isName,h3]; omega,rfl⟩
      · have h3' : ¬ (nm l 0 : Int) = l.length := by omega
        simp [h1,h2,h3']
        exact fin_plain ⟨by simp [isName,h3],rfl⟩
    · simp [h1,h2]
      exact fin_plain ⟨by simp [isName]; intros; omega,rfl⟩
  · simp [h1]
    exact fin_plain ⟨by simp [isName]; intros; omega,rfl⟩
theorem impl_isName {l : List UInt8} (hl : l.length ≤ mx) : Fnc Tryz.prog 151 [.str l] (.bool (isName l)) := by
  refine fn_of c151 (by simp [F151]) fun c => ?_
  unfold F151
  by_cases h2 : (l.length : Int) ≤ 20
  · simp [h2]
    refine call_fn0 (implName_fn hl) .int fun _ _ => ?_
    by_cases h3 : nm l 0 = l.length
    · simp [h2,h3]
      refine fin_plain ⟨?_,rfl⟩
      cases l with
      | nil => simp [isName]
      | cons b l => simp [isName,h3]; simp at h2; omega
    · have h3' : ¬ (nm l 0 : Int) = l.length := by omega
      simp [h2,h3']
      exact fin_plain ⟨by simp [isName,h3],rfl⟩
  · simp [h2]
    exact fin_plain ⟨by simp [isName]; intros; omega,rfl⟩
set_option maxRecDepth 100000
def reserved : List (List UInt8) := [[101,99,104,111],[105,102],[101,108,115,101],[119,104,105,108,101],[102,111,114,101,97,99,104],[97,115],[98,114,101,97,107],[99,111,110,116,105,110,117,101],[114,101,116,117,114,110],[103,108,111,98,97,108],[117,110,115,101,116],[116,104,114,111,119],[116,114,121],[99,97,116,99,104],[102,105,110,97,108,108,121],[121,105,101,108,100],[105,110,99,108,117,100,101],[102,117,110,99,116,105,111,110],[99,108,97,115,115],[116,114,97,105,116],[101,120,116,101,110,100,115],[117,115,101],[112,114,105,118,97,116,101],[115,116,97,116,105,99],[110,101,119],[116,114,117,101],[102,97,108,115,101],[110,117,108,108]]
def isReserved (s : List UInt8) : Bool := decide (s ∈ reserved)
theorem impl_isReserved (s : List UInt8) : Fnc Tryz.prog 152 [.str s] (.bool (isReserved s)) := by
  refine fn_of c152 (by simp [F152]) fun c => ?_
  unfold F152
  by_cases h0 : s ∈ reserved
  · have e : isReserved s = true := decide_eq_true h0
    simp only [reserved,List.mem_cons,List.not_mem_nil,or_false] at h0
    rcases h0 with h | h | h | h | h | h | h | h | h | h | h | h | h | h | h | h | h | h | h | h | h | h | h | h | h | h | h | h <;> (rw [h] at e; simp [h]; exact fin_plain ⟨by rw [e],rfl⟩)
  · have e : isReserved s = false := decide_eq_false h0
    simp only [reserved,List.mem_cons,List.not_mem_nil,or_false,not_or] at h0
    simp [h0]
    exact fin_plain ⟨by rw [e],rfl⟩
theorem spec_isReserved (s : List UInt8) : Fnc Tryz.prog 140 [.str s] (.bool (isReserved s)) := by
  refine fn_of c140 (by simp [F140]) fun c => ?_
  unfold F140
  simp
  have hr : reserved.length = 28 := by decide
  have hd : isReserved s = decide (s ∈ reserved) := rfl
  refine loop_drop reserved.length (fun i e H c' => e 0 = .str s ∧ e 3 = .ref 0 c 1 28 ∧ e 4 = .int .i64 i ∧ H = [⟨false,c,1,reserved.map fun x => [.str x]⟩] ∧ ∀ k,k < i → ∀ w,reserved[k]? = some w → w ≠ s) ⟨rfl,rfl,rfl,rfl,fun k hk => absurd hk (Nat.not_lt_zero _)⟩ ?_
  rw [hd]
  clear hd
  generalize reserved = L at hr
  intro i e H c' hi ⟨e0,e3,e4,hH,hn⟩ N hN
  subst hH
  by_cases h : i < L.length
  · have hx : L[i]? = some L[i] := List.getElem?_eq_getElem h
    have hb : L[i] ∈ L := List.getElem_mem h
    generalize L[i] = b at hx hb
    have h28 : (i : Int) < 28 := by omega
    by_cases he : b = s
    · subst he
      simp [e0,e3,e4,h,getW_of hx,hr,h28]
      exact fin_plain ⟨by rw [decide_eq_true hb],rfl⟩
    · simp [e0,e3,e4,h,getW_of hx,hr,h28,he]
      exact hN _ _ _ _ h (List.Sublist.refl _) ⟨by simp [upd,e0],by simp [upd,e3],by simp [upd]; exact step64 (by unfold mx; omega) h,rfl,fun k hk w hw => by
        rcases Nat.lt_or_eq_of_le (Nat.le_of_lt_succ hk) with h1 | h1
        · exact hn k h1 w hw
        · subst h1; rw [hx] at hw; cases hw; exact he⟩
  · have hie : i = L.length := by omega
    subst hie
    simp [e0,e3,e4,hr]
    refine fin_plain ⟨?_,rfl⟩
    rw [decide_eq_false fun hm => ?_]
    obtain ⟨k,hk,hw⟩ := List.getElem_of_mem hm
    exact hn k hk s (by rw [List.getElem?_eq_getElem hk,hw]) rfl
theorem goodName_fn {l : List UInt8} (hl : l.length ≤ mx) : Fnc Tryz.prog 107 [.str l] (.bool (isName l && !isReserved l)) := by
  refine fn_of c107 (by simp [F107]) fun c => ?_
  unfold F107
  simp
  refine call_fn0 (impl_isName hl) .bool fun _ _ => ?_
  cases isName l
  · simp
    exact fin_plain ⟨rfl,rfl⟩
  · simp
    refine call_fn0 (impl_isReserved l) .bool fun _ _ => ?_
    simp
    exact fin_plain ⟨rfl,rfl⟩
theorem l15Name_fn {l : List UInt8} (hl : l.length ≤ mx) : Fnc Tryz.prog 96 [.str l] (.bool (isName l && !isReserved l)) := by
  refine fn_of c96 (by simp [F96]) fun c => ?_
  unfold F96
  simp
  refine call_fn0 (spec_isName hl) .bool fun _ _ => ?_
  cases isName l
  · simp
    exact fin_plain ⟨rfl,rfl⟩
  · simp
    refine call_fn0 (spec_isReserved l) .bool fun _ _ => ?_
    simp
    exact fin_plain ⟨rfl,rfl⟩
set_option maxRecDepth 100000
def isFinal (op : Int) : Bool := decide (op = 27) || decide (op = 42) || decide (op = 43) || decide (op = 49)
theorem impl_isFinal (op : Int) : Fnc Tryz.prog 185 [.int .i64 op] (.bool (isFinal op)) := by
  refine fn_of c185 (by simp [F185]) fun c => ?_
  unfold F185
  by_cases h1 : op = 27
  · simp [h1]; exact fin_plain ⟨by simp [isFinal,h1],rfl⟩
  by_cases h2 : op = 42
  · simp [h2]; exact fin_plain ⟨by simp [isFinal,h2],rfl⟩
  by_cases h3 : op = 43
  · simp [h3]; exact fin_plain ⟨by simp [isFinal,h3],rfl⟩
  by_cases h4 : op = 49
  · simp [h4]; exact fin_plain ⟨by simp [isFinal,h4],rfl⟩
  simp [h1,h2,h3,h4]
  exact fin_plain ⟨by simp [isFinal,h1,h2,h3,h4],rfl⟩
theorem spec_isFinal (op : Int) : Fnc Tryz.prog 171 [.int .i64 op] (.bool (isFinal op)) := by
  refine fn_of c171 (by simp [F171]) fun c => ?_
  unfold F171
  by_cases h1 : op = 27
  · simp [h1]; exact fin_plain ⟨by simp [isFinal,h1],rfl⟩
  by_cases h2 : op = 42
  · simp [h2]; exact fin_plain ⟨by simp [isFinal,h2],rfl⟩
  by_cases h3 : op = 43
  · simp [h3]; exact fin_plain ⟨by simp [isFinal,h3],rfl⟩
  by_cases h4 : op = 49
  · simp [h4]; exact fin_plain ⟨by simp [isFinal,h4],rfl⟩
  simp [h1,h2,h3,h4]
  exact fin_plain ⟨by simp [isFinal,h1,h2,h3,h4],rfl⟩
theorem knownOp_fn (op : Int) : Fnc Tryz.prog 213 [.int .i64 op] (.bool (inR op 1 56)) := by
  refine fn_of c213 (by simp [F213]) fun c => ?_
  unfold F213
  simp
  refine call_fn0 (inRange_fn _ _ _) .bool fun _ _ => ?_
  simp
  exact fin_plain ⟨rfl,rfl⟩
def opA (x : TIns) (slots size : Int) : Bool :=
  if x.Op = 2 then inR x.A 0 1000000000 else if x.Op = 4 ∨ x.Op = 11 then inR x.A 0 2 else if x.Op = 12 then inR x.A 1 15
  else if slotOp x.Op = true then decide (0 ≤ x.A) && decide (x.A < slots) else if hasTarget x.Op = true then decide (0 ≤ x.A) && decide (x.A < size) else decide (x.A = 0)
theorem operandA_fn (x : TIns) (slots size : Int) : Fnc Tryz.prog 214 [.agg x.enc,.int .i64 slots,.int .i64 size] (.bool (opA x slots size)) := by
  refine fn_of c214 (by simp [F214]) fun c => ?_
  unfold F214
  by_cases h1 : x.Op = 2
  · simp [h1]
    refine call_fn0 (inRange_fn _ _ _) .bool fun _ _ => ?_
    simp
    exact fin_plain ⟨by simp [opA,h1],rfl⟩
  by_cases h2 : x.Op = 4
  · simp [h2]
    refine call_fn0 (inRange_fn _ _ _) .bool fun _ _ => ?_
    simp
    exact fin_plain ⟨by simp [opA,h2],rfl⟩
  by_cases h3 : x.Op = 11
  · simp [h3]
    refine call_fn0 (inRange_fn _ _ _) .bool fun _ _ => ?_
    simp
    exact fin_plain ⟨by simp [opA,h3],rfl⟩
  by_cases h4 : x.Op = 12
  · simp [h4]
    refine call_fn0 (inRange_fn _ _ _) .bool fun _ _ => ?_
    simp
    exact fin_plain ⟨by simp [opA,h4],rfl⟩
  have e : opA x slots size = if slotOp x.Op = true then decide (0 ≤ x.A) && decide (x.A < slots) else if hasTarget x.Op = true then decide (0 ≤ x.A) && decide (x.A < size) else decide (x.A = 0) := by
    unfold opA; rw [if_neg h1,if_neg (by simp [h2,h3]),if_neg h4]
  simp [h1,h2,h3,h4]
  refine call_fn0 (impl_slotOp _) .bool fun _ _ => ?_
  rw [e]
  clear e
  cases slotOp x.Op
  · simp
    refine call_fn0 (impl_hasTarget _) .bool fun _ _ => ?_
    cases hasTarget x.Op
    · simp
      exact fin_plain ⟨by simp,rfl⟩
    · by_cases h5 : 0 ≤ x.A
      · simp [h5]
        exact fin_plain ⟨by simp,rfl⟩
      · simp [h5]
        exact fin_plain ⟨by simp,rfl⟩
  · by_cases h5 : 0 ≤ x.A
    · simp [h5]
      exact fin_plain ⟨by simp,rfl⟩
    · simp [h5]
      exact fin_plain ⟨by simp,rfl⟩
def opB (x : TIns) (slots : Int) : Bool :=
  if x.Op = 15 ∨ x.Op = 52 then inR x.B 0 1 else if x.Op = 18 ∨ x.Op = 19 ∨ x.Op = 20 then inR x.B 0 81 else if x.Op = 21 ∨ x.Op = 22 ∨ x.Op = 23 then inR x.B 0 40
  else if x.Op = 24 then decide (0 ≤ x.B) && decide (x.B < slots) else if x.Op = 49 then inR x.B 0 100 else decide (x.B = 0)
theorem opB_15 {x : TIns} (slots : Int) (h : x.Op = 15) : opB x slots = inR x.B 0 1 := by simp [opB,h]
theorem opB_52 {x : TIns} (slots : Int) (h : x.Op = 52) : opB x slots = inR x.B 0 1 := by simp [opB,h]
theorem opB_18 {x : TIns} (slots : Int) (h : x.Op = 18) : opB x slots = inR x.B 0 81 := by simp [opB,h]
theorem opB_19 {x : TIns} (slots : Int) (h : x.Op = 19) : opB x slots = inR x.B 0 81 := by simp [opB,h]
theorem opB_20 {x : TIns} (slots : Int) (h : x.Op = 20) : opB x slots = inR x.B 0 81 := by simp [opB,h]
theorem opB_21 {x : TIns} (slots : Int) (h : x.Op = 21) : opB x slots = inR x.B 0 40 := by simp [opB,h]
theorem opB_22 {x : TIns} (slots : Int) (h : x.Op = 22) : opB x slots = inR x.B 0 40 := by simp [opB,h]
theorem opB_23 {x : TIns} (slots : Int) (h : x.Op = 23) : opB x slots = inR x.B 0 40 := by simp [opB,h]
theorem opB_49 {x : TIns} (slots : Int) (h : x.Op = 49) : opB x slots = inR x.B 0 100 := by simp [opB,h]
theorem opB_24 {x : TIns} (slots : Int) (h : x.Op = 24) : opB x slots = (decide (0 ≤ x.B) && decide (x.B < slots)) := by simp [opB,h]
theorem operandB_fn (x : TIns) (slots : Int) : Fnc Tryz.prog 215 [.agg x.enc,.int .i64 slots] (.bool (opB x slots)) := by
  refine fn_of c215 (by simp [F215]) fun c => ?_
  unfold F215
  by_cases h1 : x.Op = 15
  · rw [opB_15 _ h1]; simp [h1]; refine call_fn0 (inRange_fn _ _ _) .bool fun _ _ => ?_
    simp; exact fin_plain ⟨rfl,rfl⟩
  by_cases h2 : x.Op = 52
  · rw [opB_52 _ h2]; simp [h2]; refine call_fn0 (inRange_fn _ _ _) .bool fun _ _ => ?_
    simp; exact fin_plain ⟨rfl,rfl⟩
  by_cases h3 : x.Op = 18
  · rw [opB_18 _ h3]; simp [h3]; refine call_fn0 (inRange_fn _ _ _) .bool fun _ _ => ?_
    simp; exact fin_plain ⟨rfl,rfl⟩
  by_cases h4 : x.Op = 19
  · rw [opB_19 _ h4]; simp [h4]; refine call_fn0 (inRange_fn _ _ _) .bool fun _ _ => ?_
    simp; exact fin_plain ⟨rfl,rfl⟩
  by_cases h5 : x.Op = 20
  · rw [opB_20 _ h5]; simp [h5]; refine call_fn0 (inRange_fn _ _ _) .bool fun _ _ => ?_
    simp; exact fin_plain ⟨rfl,rfl⟩
  by_cases h6 : x.Op = 21
  · rw [opB_21 _ h6]; simp [h6]; refine call_fn0 (inRange_fn _ _ _) .bool fun _ _ => ?_
    simp; exact fin_plain ⟨rfl,rfl⟩
  by_cases h7 : x.Op = 22
  · rw [opB_22 _ h7]; simp [h7]; refine call_fn0 (inRange_fn _ _ _) .bool fun _ _ => ?_
    simp; exact fin_plain ⟨rfl,rfl⟩
  by_cases h8 : x.Op = 23
  · rw [opB_23 _ h8]; simp [h8]; refine call_fn0 (inRange_fn _ _ _) .bool fun _ _ => ?_
    simp; exact fin_plain ⟨rfl,rfl⟩
  by_cases h9 : x.Op = 49
  · rw [opB_49 _ h9]; simp [h9]; refine call_fn0 (inRange_fn _ _ _) .bool fun _ _ => ?_
    simp; exact fin_plain ⟨rfl,rfl⟩
  by_cases h10 : x.Op = 24
  · rw [opB_24 _ h10]
    by_cases h5 : 0 ≤ x.B
    · simp [h10,h5]; exact fin_plain ⟨by simp,rfl⟩
    · simp [h10,h5]; exact fin_plain ⟨by simp,rfl⟩
  simp [h1,h2,h3,h4,h5,h6,h7,h8,h9,h10]
  exact fin_plain ⟨by simp [opB,h1,h2,h3,h4,h5,h6,h7,h8,h9,h10],rfl⟩
set_option maxRecDepth 100000
theorem thenQ_then (X K : Env → List AObj → Nat → Prop) (Q : Post) : thenQ X (thenQ K Q) = thenQ X Q := by
  funext x
  cases x <;> rfl
theorem irW_assoc {P : Program} {A B C : IR} {Q : Post} {e : Env} {H : List AObj} {c : Nat} : irW P (A.seq (B.seq C)) Q e H c = irW P ((A.seq B).seq C) Q e H c := by
  show irW P A (thenQ (irW P B (thenQ (irW P C Q) Q)) Q) e H c = irW P A (thenQ (irW P B (thenQ (irW P C Q) Q)) (thenQ (irW P C Q) Q)) e H c
  rw [thenQ_then]
theorem seq_cut {P : Program} {A B : IR} {Q : Post} {e : Env} {H : List AObj} {c : Nat} (R : Env → List AObj → Nat → Prop) (hB : ∀ e H c,R e H c → irW P B Q e H c)
    (hA : ∀ K : Env → List AObj → Nat → Prop,(∀ e H c,R e H c → K e H c) → irW P A (thenQ K Q) e H c) : irW P (A.seq B) Q e H c := hA _ hB
theorem blk_cut {P : Program} {A : IR} {Q : Post} {id : Nat} {e : Env} {H : List AObj} {c : Nat} (h : irW P A (blockQ id Q) e H c) : irW P (.block id A) Q e H c := h
set_option maxRecDepth 100000
def good (l : List UInt8) : Bool := isName l && !isReserved l
def opS (x : TIns) : Bool := if x.Op ∈ ([31,55,56,35,36] : List Int) then true else if x.Op = 3 then decide (x.S.length ≤ 400) else if x.Op ∈ ([7,8,17,19,20,22,23,25,26,32,34,39,44] : List Int) then good x.S else decide (x.S = [])
def opT (x : TIns) : Bool := if x.Op = 25 then good x.T else decide (x.T = [])
def isIns (x : TIns) (slots size : Int) : Bool := inR x.Op 1 56 && opA x slots size && opB x slots && opS x && opT x
theorem impl_isIns {x : TIns} (hS : x.S.length ≤ mx) (hT : x.T.length ≤ mx) (slots size : Int) : Fnc Tryz.prog 182 [.agg x.enc,.int .i64 slots,.int .i64 size] (.bool (isIns x slots size)) := by
  refine fn_of c182 (by simp [F182]) fun c => ?_
  unfold F182
  refine seq_cut (fun e H c' => e 0 = .agg x.enc ∧ e 1 = .int .i64 slots ∧ e 2 = .int .i64 size ∧ e 3 = .ptr 0 c 5 0 0 ∧ H = [⟨false,c,5,[x.enc]⟩]) ?_ ?_
  rotate_left
  · intro K hK
    simp
    exact hK _ _ _ ⟨rfl,rfl,rfl,rfl,rfl⟩
  intro e H c1 ⟨e0,e1,e2,e3,hH⟩
  subst hH
  refine seq_cut (fun e H c' => e 3 = .ptr 0 c 5 0 0 ∧ H = [⟨false,c,5,[x.enc]⟩] ∧ isIns x slots size = (opS x && opT x)) ?_ ?_
  rotate_left
  · intro K hK
    simp [e0,e1,e2,e3]
    refine call_fn0 (knownOp_fn _) .bool fun _ _ => ?_
    cases hk : inR x.Op 1 56
    · simp
      exact fin_plain ⟨by simp [isIns,hk],rfl⟩
    simp [e0,e1,e2,e3]
    refine call_fn0 (operandA_fn _ _ _) .bool fun _ _ => ?_
    cases ha : opA x slots size
    · simp
      exact fin_plain ⟨by simp [isIns,hk,ha],rfl⟩
    simp [e0,e1,e2,e3]
    refine call_fn0 (operandB_fn _ _) .bool fun _ _ => ?_
    cases hb : opB x slots
    · simp
      exact fin_plain ⟨by simp [isIns,hk,ha,hb],rfl⟩
    simp [e0,e1,e2,e3]
    exact hK _ _ _ ⟨by simp [upd,e3],rfl,by simp [isIns,hk,ha,hb]⟩
  clear e0 e1 e2 e3 e
  intro e H c2 ⟨e3,hH,hd⟩
  subst hH
  rw [hd]
  clear hd
  refine seq_cut (fun e H c' => e 3 = .ptr 0 c 5 0 0 ∧ H = [⟨false,c,5,[x.enc]⟩] ∧ opS x = true) ?_ ?_
  rotate_left
  · intro K hK
    by_cases h1 : x.Op ∈ ([31,55,56,35,36] : List Int)
    · have e : opS x = true := by unfold opS; exact if_pos h1
      simp only [List.mem_cons,List.not_mem_nil,or_false] at h1
      rcases h1 with h | h | h | h | h <;> (simp [e3,h]; exact hK _ _ _ ⟨by simp [upd,e3],rfl,e⟩)
    by_cases h2 : x.Op = 3
    · have e : opS x = decide (x.S.length ≤ 400) := by unfold opS; rw [if_neg h1]; exact if_pos h2
      clear h1
      by_cases h3 : x.S.length ≤ 400
      · have h4 : ¬ (400 : Int) < x.S.length := by omega
        simp [e3,h2,h4]; exact hK _ _ _ ⟨by simp [upd,e3],rfl,by rw [e]; exact decide_eq_true h3⟩
      · have h4 : (400 : Int) < x.S.length := by omega
        simp [e3,h2,h4]; exact fin_plain ⟨by rw [e,decide_eq_false h3]; rfl,rfl⟩
    by_cases h3 : x.Op ∈ ([7,8,17,19,20,22,23,25,26,32,34,39,44] : List Int)
    · have e : opS x = good x.S := by unfold opS; rw [if_neg h1,if_neg h2]; exact if_pos h3
      clear h1 h2
      simp only [List.mem_cons,List.not_mem_nil,or_false] at h3
      rcases h3 with h | h | h | h | h | h | h | h | h | h | h | h | h
      all_goals
        simp [e3,h]
        refine call_fn0 (goodName_fn hS) .bool fun _ _ => ?_
        cases hg : isName x.S && !isReserved x.S
        · simp; exact fin_plain ⟨by rw [e]; unfold good; rw [hg]; rfl,rfl⟩
        · simp; exact hK _ _ _ ⟨by simp [upd,e3],rfl,by rw [e]; exact hg⟩
    · have e : opS x = decide (x.S = []) := by unfold opS; rw [if_neg h1,if_neg h2,if_neg h3]
      simp only [List.mem_cons,List.not_mem_nil,or_false,not_or] at h1 h2 h3
      by_cases h4 : x.S = []
      · simp [e3,h1,h2,h3,h4]; exact hK _ _ _ ⟨by simp [upd,e3],rfl,by rw [e]; exact decide_eq_true h4⟩
      · simp [e3,h1,h2,h3,h4]; exact fin_plain ⟨by rw [e,decide_eq_false h4]; rfl,rfl⟩
  clear e3 e
  intro e H c3 ⟨e3,hH,hs⟩
  subst hH
  rw [hs]
  by_cases h1 : x.Op = 25
  · simp [e3,h1]
    refine call_fn0 (goodName_fn hT) .bool fun _ _ => ?_
    simp
    exact fin_plain ⟨by simp [opT,h1,good],rfl⟩
  · by_cases h2 : x.T = []
    · simp [e3,h1,h2]
      exact fin_plain ⟨by simp [opT,h1,h2],rfl⟩
    · simp [e3,h1,h2]
      exact fin_plain ⟨by simp [opT,h1,h2],rfl⟩
set_option maxRecDepth 100000
def succ (x : TIns) (i : Nat) (v : Int) (j : Nat) (w : Int) : Prop :=
  (isFinal x.Op = false ∧ j = i + 1 ∧ w = IntKind.i64.wrap (v + insChange x)) ∨ (hasTarget x.Op = true ∧ (j : Int) = x.A ∧ w = IntKind.i64.wrap (v + targetChange x.Op))
inductive Reach (code : List TIns) : Nat → Int → Prop
  | zero : Reach code 0 0
  | step {i j : Nat} {v w : Int} {x : TIns} (h : Reach code i v) (hx : code[i]? = some x) (hs : succ x i v j w) : Reach code j w
def okReach (code : List TIns) : Prop := ∀ i v,Reach code i v → ∃ x,code[i]? = some x ∧ 0 ≤ v ∧ v ≤ 500 ∧ insNeed x ≤ v ∧ ∀ v',Reach code i v' → v' = v
def okHeights (slots : Nat) (code : List TIns) : Prop := 0 < code.length ∧ (∀ x,x ∈ code → isIns x slots code.length = true) ∧ okReach code
structure HInv (code : List TIns) (hs : List Int) : Prop where
  len : hs.length = code.length
  range : ∀ i v,hs[i]? = some v → v = -1 ∨ (0 ≤ v ∧ v ≤ 500 ∧ Reach code i v)
  zero : hs[0]? = some 0
def DoneAt (code : List TIns) (hs : List Int) (i : Nat) : Prop :=
  ∀ v x,hs[i]? = some v → 0 ≤ v → code[i]? = some x → insNeed x ≤ v ∧ ∀ j w,succ x i v j w → hs[j]? = some w ∧ 0 ≤ w
theorem done_ok {code : List TIns} {hs : List Int} (I : HInv code hs) (D : ∀ i,DoneAt code hs i) : okReach code := by
  have key : ∀ i v,Reach code i v → hs[i]? = some v ∧ 0 ≤ v := by
    intro i v h
    induction h with
    | zero => exact ⟨I.zero,Int.le_refl _⟩
    | step h hx hs' ih => exact (D _ _ _ ih.1 ih.2 hx).2 _ _ hs'
  intro i v h
  obtain ⟨h1,h2⟩ := key i v h
  have hi : i < code.length := by rw [← I.len]; exact (List.getElem?_eq_some_iff.1 h1).1
  have hx : code[i]? = some code[i] := List.getElem?_eq_getElem hi
  refine ⟨_,hx,h2,?_,(D _ _ _ h1 h2 hx).1,fun v' h' => ?_⟩
  · rcases I.range i v h1 with h | ⟨_,h,_⟩ <;> omega
  · have := (key i v' h').1
    rw [h1] at this; exact (Option.some.inj this).symm
theorem need_bad {code : List TIns} {i : Nat} {v : Int} {x : TIns} (h : Reach code i v) (hx : code[i]? = some x) (hn : v < insNeed x) : ¬ okReach code := fun ok => by
  obtain ⟨y,hy,_,_,h3,_⟩ := ok i v h
  rw [hx] at hy; cases hy; omega
def giveOk (hs : List Int) (j : Nat) (w : Int) : Prop := inR w 0 500 = true ∧ ∃ u,hs[j]? = some u ∧ (u < 0 ∨ u = w)
theorem inR_iff {a lo hi : Int} : inR a lo hi = true ↔ lo ≤ a ∧ a ≤ hi := by simp [inR]
theorem give_bad {code : List TIns} {hs : List Int} {j : Nat} {w : Int} (I : HInv code hs) (h : Reach code j w) (hb : ¬ giveOk hs j w) : ¬ okReach code := fun ok => by
  obtain ⟨x,hx,h0,h1,_,hu⟩ := ok j w h
  have hj : j < hs.length := by rw [I.len]; exact (List.getElem?_eq_some_iff.1 hx).1
  refine hb ⟨inR_iff.2 ⟨h0,h1⟩,hs[j],List.getElem?_eq_getElem hj,?_⟩
  rcases I.range j hs[j] (List.getElem?_eq_getElem hj) with h | ⟨h,_,hr⟩
  · left; omega
  · right; exact hu _ hr
def unv (hs : List Int) : Nat := hs.countP fun v => decide (v < 0)
structure Gave (hs hs' : List Int) (j : Nat) (w : Int) : Prop where
  keep : ∀ (k : Nat) (v : Int),hs[k]? = some v → 0 ≤ v → hs'[k]? = some v
  at_ : hs'[j]? = some w
  pos : 0 ≤ w
  new : ∀ (k : Nat) (v : Int),hs'[k]? = some v → 0 ≤ v → k = j ∨ hs[k]? = some v
theorem give_inv {code : List TIns} {hs : List Int} {j : Nat} {w : Int} (I : HInv code hs) (h : Reach code j w) (hg : giveOk hs j w) : HInv code (hs.set j w) ∧ Gave hs (hs.set j w) j w := by
  obtain ⟨hr,u,hu,huw⟩ := hg
  have hj : j < hs.length := (List.getElem?_eq_some_iff.1 hu).1
  have hw := inR_iff.1 hr
  have get : ∀ (k : Nat) (v : Int),(hs.set j w)[k]? = some v → (k = j ∧ v = w) ∨ (k ≠ j ∧ hs[k]? = some v) := by
    intro k v hk
    by_cases e : k = j
    · subst e
      rw [List.getElem?_set_self hj] at hk
      exact .inl ⟨rfl,(Option.some.inj hk).symm⟩
    · rw [List.getElem?_set_ne (Ne.symm e)] at hk
      exact .inr ⟨e,hk⟩
  have keep : ∀ (k : Nat) (v : Int),hs[k]? = some v → 0 ≤ v → (hs.set j w)[k]? = some v := by
    intro k v hk hv
    by_cases e : k = j
    · subst e
      rw [List.getElem?_set_self hj]
      rw [hu] at hk; cases hk
      rcases huw with h | h
      · omega
      · rw [h]
    · rw [List.getElem?_set_ne (Ne.symm e)]; exact hk
  refine ⟨⟨by simp [I.len],?_,keep 0 0 I.zero (Int.le_refl _)⟩,⟨keep,by rw [List.getElem?_set_self hj],hw.1,?_⟩⟩
  · intro k v hk
    rcases get k v hk with ⟨rfl,rfl⟩ | ⟨_,h1⟩
    · exact .inr ⟨hw.1,hw.2,h⟩
    · exact I.range k v h1
  · intro k v hk _
    rcases get k v hk with ⟨h1,_⟩ | ⟨_,h1⟩
    · exact .inl h1
    · exact .inr h1
theorem Gave.refl {hs : List Int} {j : Nat} {w : Int} (h : hs[j]? = some w) (hw : 0 ≤ w) : Gave hs hs j w := ⟨fun _ _ h _ => h,h,hw,fun _ _ h _ => .inr h⟩
theorem unv_new {hs : List Int} {j : Nat} {w u : Int} (hu : hs[j]? = some u) (hn : u < 0) (hw : 0 ≤ w) : unv (hs.set j w) + 1 = unv hs := by
  obtain ⟨hj,he⟩ := List.getElem?_eq_some_iff.1 hu
  unfold unv
  have e : hs = hs.take j ++ u :: hs.drop (j + 1) := by rw [← he,← List.drop_eq_getElem_cons hj,List.take_append_drop]
  have e2 : hs.set j w = hs.take j ++ w :: hs.drop (j + 1) := by rw [List.set_eq_take_append_cons_drop,if_pos hj]
  rw [e2]
  conv => rhs; rw [e]
  simp only [List.countP_append,List.countP_cons]
  have h1 : decide (u < 0) = true := decide_eq_true hn
  have h2 : decide (w < 0) = false := decide_eq_false (by omega)
  rw [h1,h2]
  simp
  omega
theorem set_same {hs : List Int} {j : Nat} {w : Int} (hu : hs[j]? = some w) : hs.set j w = hs := by
  obtain ⟨hj,he⟩ := List.getElem?_eq_some_iff.1 hu
  rw [← he,List.set_getElem_self]
theorem unv_le {hs : List Int} {j : Nat} {w u : Int} (hu : hs[j]? = some u) (h : u < 0 ∨ u = w) (hw : 0 ≤ w) : unv (hs.set j w) ≤ unv hs := by
  rcases h with h | h
  · have := unv_new hu h hw; omega
  · subst h; rw [set_same hu]; exact Nat.le_refl _
theorem done_keep {code : List TIns} {hs hs' : List Int} {i j : Nat} {w : Int} (D : DoneAt code hs i) (G : Gave hs hs' j w) (hi : ∀ v : Int,hs'[i]? = some v → 0 ≤ v → hs[i]? = some v) : DoneAt code hs' i := by
  intro v x hv hp hx
  obtain ⟨h1,h2⟩ := D v x (hi v hv hp) hp hx
  exact ⟨h1,fun j' w' hs' => by
    obtain ⟨h3,h4⟩ := h2 j' w' hs'
    exact ⟨G.keep _ _ h3 h4,h4⟩⟩
theorem loop_meas {P : Program} {B : IR} {Q : Post} {e : Env} {H : List AObj} {c m0 : Nat} (I : Nat → Env → List AObj → Nat → Prop) (h0 : I m0 e H c)
    (hs : ∀ m e H c,I m e H c → ∀ N : Env → List AObj → Nat → Prop,(∀ m' e' H' H'' c',m' < m → H''.Sublist H' → I m' e' H'' c' → N e' H' c') → irW P B (thenQ N Q) e H c) : irW P (.loop B) Q e H c := by
  refine ⟨fun e H c => ∃ m,I m e H c,fun e H c => least fun k => I k e H c,⟨H,List.Sublist.refl _,m0,h0⟩,fun e H c ⟨m1,h1⟩ => ?_⟩
  have h2 := least_spec (p := fun k => I k e H c) ⟨m1,h1⟩
  exact hs _ e H c h2 _ fun m' e' H' H'' c' hlt hsub hI' => ⟨H'',hsub,⟨m',hI'⟩,Nat.lt_of_le_of_lt (least_le (p := fun k => I k e' H'' c') hI') hlt⟩
end A
end Go.Proofs.YtgalkppgeoknaaaGreatDoor
